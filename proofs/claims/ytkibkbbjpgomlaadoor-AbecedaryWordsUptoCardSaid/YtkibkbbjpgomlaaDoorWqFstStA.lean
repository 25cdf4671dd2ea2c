/-
  FstStA.
-/
import Derived.Test.YtkibkbbjpgomlaaDoorWqFstMath
import Derived.Deep.DeepCutAuto
import Derived.Deep.LoopGhost
namespace Go.Proofs.YtkibkbbjpgomlaaDoor.F
open Go.RowKit Go.Shelf Go.Maps
open Aid
set_option linter.unusedSimpArgs false
set_option linter.unusedVariables false

/-- a builder that has the states S; what they hold lies in no block of F -/
def Bok (w : World) (b : Bd) (S : List StM) (C : Nat) (F : Nat → Prop) : Prop := ∃ q nu by_, BIs w b q nu by_ S.length ∧ q.map (·.1) = S ∧ NumsOk nu ∧ PInv nu by_ S ∧ nu.cnt ≤ C ∧ ∀ x ∈ q, ∀ y, x.2.ownBlock = some y → ¬ F y
def StEnd (b : Bd) (r : List StM × Nat) (C : Nat) (F : Nat → Prop) (w : World) (e : Ending) (w' : World) : Prop :=
  ∃ v', e = .returned (.int .i64 (r.2 : Nat)) ∧ Bok w' { b with v := v' } r.1 C F ∧ Turn b.O w w' ∧ ∀ x, x < w.heap.size → Bd.O { b with v := v' } x → b.O x
theorem addM_mem {q : List (StM × Value)} {by_ : Int → Option Value} {k : Nat} {s : StM} {u : Value} {x : StM × Value} (h : x ∈ (addM q by_ k s u).2.1) : x ∈ q ∨ x = (s, u) := by
  unfold addM at h
  split at h
  · exact .inl h
  · rcases List.mem_append.1 h with h | h
    · exact .inl h
    · exact .inr (by simpa using h)
theorem add_ok (b : Bd) (S : List StM) (C : Nat) (F : Nat → Prop) (s : StM) (u : Value) (w : World) (h : Bok w b S C F) (ha : ArcsAre b.O w u s.arcs) (hu : ∀ y, u.ownBlock = some y → ¬ F y) (hs : i64 s.out) (har : ∀ a ∈ s.arcs, ArcOk a) (hS : S.length ≤ 1000000) (hC : C ≤ 100000000) :
    Calls Tryd.prog 30 #[.pointer (some ⟨b.p, 0, none⟩), .agg (stV s u)] w (StEnd b (addS S s) (C + 1 + s.arcs.length) F w) := by
  obtain ⟨q, nu, by_, h1, rfl, h2, h3, h4, h5⟩ := h
  obtain ⟨p1, p2, p3, p4⟩ := PInv.add h2 h3 s u
  obtain ⟨c1, c2, _, _⟩ := chainN_ok h2 s
  rw [List.length_map] at h1 hS
  refine (add_any b q nu by_ q.length s u w h1 h2 ha hs har hS (by omega) hS).mono ?_
  rintro e w' ⟨v', rfl, k1, k2, k3⟩
  refine ⟨v', by rw [p1], ⟨_, _, _, ?_, p2, c1, p3, by omega, fun x hx y hy => ?_⟩, k2, k3⟩
  · rw [p4] at k1
    exact k1
  · rcases addM_mem hx with hx | rfl
    · exact h5 x hx y hy
    · exact hu y hy
theorem Bok.turn2 {w w' : World} {b : Bd} {S : List StM} {C : Nat} {F F' G : Nat → Prop} (h : Bok w b S C F) (hT : Turn G w w') (hG : ∀ x, x < w.heap.size → G x → F x ∧ ¬ b.O x) (hF : ∀ x, x < w.heap.size → F' x → F x) : Bok w' b S C F' := by
  obtain ⟨q, nu, by_, h1, e, n1, p1, c1, f1⟩ := h
  have hk : ∀ x, x < w.heap.size → b.O x → w'.heap[x]? = w.heap[x]? := fun x hx ho => hT.kept x hx (fun g => (hG x hx g).2 ho)
  refine ⟨q, nu, by_, ⟨(hk _ h1.blk.lt (.inl rfl)).trans h1.blk, h1.links.kept (hk _ h1.links.lt (.inr (.inl rfl))), h1.byl.kept (hk _ h1.byl.lt (.inr (.inr (.inl rfl)))), owns_kept h1.own (fun x hx => hk x (h1.own.lt x hx).2 (.inr (.inr (.inr hx)))), h1.lmp, h1.bmp, h1.ne, fun x hx => (h1.arcs x hx).kept hT.size (fun y hy => ?_)⟩, e, n1, p1, c1, fun x hx y hy hf => f1 x hx y hy (hF y ((h1.arcs x hx).block hy).1 hf)⟩
  exact hT.kept y ((h1.arcs x hx).block hy).1 (fun g => f1 x hx y hy (hG y ((h1.arcs x hx).block hy).1 g).1)
theorem Bok.turn {w w' : World} {b : Bd} {S : List StM} {C : Nat} {F G : Nat → Prop} (h : Bok w b S C F) (hT : Turn G w w') (hG : ∀ x, x < w.heap.size → G x → F x ∧ ¬ b.O x) : Bok w' b S C F := h.turn2 hT hG (fun _ _ h => h)
theorem Bok.below {w w' : World} {b : Bd} {S : List StM} {C : Nat} {F : Nat → Prop} (h : Bok w b S C F) (hb : Below w.heap.size w w') : Bok w' b S C F := h.turn (G := fun _ => False) (Turn.of_below hb) (fun _ _ h => h.elim)
theorem Bok.weaken {w : World} {b : Bd} {S : List StM} {C : Nat} {F F' : Nat → Prop} (h : Bok w b S C F) (hF : ∀ x, x < w.heap.size → F' x → F x) : Bok w b S C F' := by
  obtain ⟨q, nu, by_, h1, e, n1, p1, c1, f1⟩ := h
  exact ⟨q, nu, by_, h1, e, n1, p1, c1, fun x hx y hy hf => f1 x hx y hy (hF y ((h1.arcs x hx).block hy).1 hf)⟩
theorem Bok.weaken' {w w' : World} {b : Bd} {S : List StM} {C : Nat} {F F' : Nat → Prop} (_ : Bok w' b S C F) (hb : Below w.heap.size w w') (hF : ∀ x, x < w.heap.size → F' x → F x) (h : Bok w b S C F) : Bok w' b S C F' := h.turn2 (G := fun _ => False) (Turn.of_below hb) (fun _ _ h => h.elim) hF
theorem Bok.O_lt {w : World} {b : Bd} {S : List StM} {C : Nat} {F : Nat → Prop} (h : Bok w b S C F) {x : Nat} (hx : b.O x) : x < w.heap.size := by
  obtain ⟨q, nu, by_, h1, r⟩ := h
  rcases hx with rfl | rfl | rfl | hx
  · exact h1.blk.lt
  · exact h1.links.lt
  · exact h1.byl.lt
  · exact (h1.own.lt x hx).2
theorem Bok.more {w : World} {b : Bd} {S : List StM} {C D : Nat} {F : Nat → Prop} (h : Bok w b S C F) (hD : C ≤ D) : Bok w b S D F := by
  obtain ⟨q, nu, by_, h1, h2, h3, h4, h5, h6⟩ := h; exact ⟨q, nu, by_, h1, h2, h3, h4, by omega, h6⟩
def rw (q : List RS) : List Rw := q.map fun x => (x.r, x.wt)
theorem RestsAre.tail2 {O : Nat → Prop} {w : World} {g off n cap : Nat} {x : RS} {q : List RS} (h : RestsAre O w (.slice (some ⟨g, off, none⟩) n cap) (x :: q)) :
    RestsAre O w (.slice (some ⟨g, off + 2, none⟩) (n - 1) (cap - 1)) q ∧ (cap - 1 = 0 → RestsAre O w (.slice (some ⟨g, off, none⟩) (n - 1) 0) q) := by
  obtain ⟨⟨a', cap', e, h1, h3⟩, h4, h5⟩ := h
  simp only [Value.slice.injEq] at e
  obtain ⟨rfl, rfl, rfl⟩ := e
  rw [List.length_cons] at h1 h5
  refine ⟨⟨⟨_, cap - 1, by rw [List.length_cons, Nat.add_sub_cancel], by omega, fun j y hj => ?_⟩, fun y hy => h4 y (List.mem_cons_of_mem _ hy), by omega⟩, fun hc => ⟨⟨_, 0, by rw [List.length_cons, Nat.add_sub_cancel], by omega, fun j y hj => ?_⟩, fun y hy => h4 y (List.mem_cons_of_mem _ hy), by omega⟩⟩
  · obtain ⟨g', off', e, hg, hn, hc, hd⟩ := h3 (j + 1) y (by simpa using hj)
    simp only [Option.some.injEq, Addr.mk.injEq] at e
    obtain ⟨rfl, rfl, _⟩ := e
    refine ⟨g, off + 2, rfl, hg, hn, ?_, ?_⟩
    · rw [show off + 2 + j * 2 = off + (j + 1) * 2 by omega, hc]
    · rw [show off + 2 + j * 2 = off + (j + 1) * 2 by omega, hd]
  · have := (List.getElem?_eq_some_iff.1 hj).1
    omega
theorem IntsC.tail2 {O : Nat → Prop} {w : World} {k : IntKind} {g off n cap : Nat} {c : Int} {r : List Int} (h : IntsC O w k (.slice (some ⟨g, off, none⟩) n cap) (c :: r)) :
    IntsC O w k (.slice (some ⟨g, off + 1, none⟩) (n - 1) (cap - 1)) r ∧ (cap - 1 = 0 → IntsC O w k (.slice (some ⟨g, off, none⟩) (n - 1) 0) r) := by
  obtain ⟨a', cap', e, h1, h2, h0, h3⟩ := h
  simp only [Value.slice.injEq] at e
  obtain ⟨rfl, rfl, rfl⟩ := e
  rw [List.length_cons] at h1 h2
  refine ⟨⟨some ⟨g, off + 1, none⟩, cap - 1, by rw [List.length_cons, Nat.add_sub_cancel], by omega, by omega, (fun _ hn => nomatch hn), fun j hj => ?_⟩, fun hc => ⟨some ⟨g, off, none⟩, 0, by rw [List.length_cons, Nat.add_sub_cancel], by omega, by omega, (fun _ hn => nomatch hn), fun j hj => by omega⟩⟩
  obtain ⟨g', off', e, hg, hn, hc⟩ := h3 (j + 1) (by simp; omega)
  simp only [Option.some.injEq, Addr.mk.injEq] at e
  obtain ⟨rfl, rfl, _⟩ := e
  refine ⟨g, off + 1, rfl, hg, hn, ?_⟩
  rw [show off + 1 + j = off + (j + 1) by omega, hc]; rfl
def rowA (A : List ArcM) : List Value := A.flatMap fun a => (arcV a).toList
def rowR (q : List RS) : List Value := q.flatMap fun x => [x.u, .int .i64 x.wt]
theorem rowA_at : ∀ (A : List ArcM) (j : Nat) (x : ArcM), A[j]? = some x → ∀ i (hi : i < (arcV x).size), (rowA A)[j * 3 + i]? = some (arcV x)[i]
  | [], j, x, h, _, _ => by simp at h
  | a :: A, 0, x, h, i, hi => by
    simp at h; subst h
    have h3 : (arcV a).size = 3 := rfl
    show ((arcV a).toList ++ rowA A)[0 * 3 + i]? = _
    rw [List.getElem?_append_left (by simp; omega)]
    simp
  | a :: A, j + 1, x, h, i, hi => by
    have := rowA_at A j x (by simpa using h) i hi
    show ((arcV a).toList ++ rowA A)[(j + 1) * 3 + i]? = _
    have h3 : (arcV a).toList.length = 3 := rfl
    rw [List.getElem?_append_right (by omega), h3, show (j + 1) * 3 + i - 3 = j * 3 + i by omega]
    exact this
theorem rowR_at : ∀ (q : List RS) (j : Nat) (x : RS), q[j]? = some x → (rowR q)[j * 2]? = some x.u ∧ (rowR q)[j * 2 + 1]? = some (.int .i64 x.wt)
  | [], j, x, h => by simp at h
  | a :: A, 0, x, h => by
    simp at h; subst h
    exact ⟨rfl, rfl⟩
  | a :: A, j + 1, x, h => by
    have := rowR_at A j x (by simpa using h)
    show ([a.u, .int .i64 a.wt] ++ rowR A)[(j + 1) * 2]? = _ ∧ ([a.u, .int .i64 a.wt] ++ rowR A)[(j + 1) * 2 + 1]? = _
    rw [List.getElem?_append_right (by simp; omega), List.getElem?_append_right (by simp; omega)]
    have e1 : (j + 1) * 2 - [a.u, .int .i64 a.wt].length = j * 2 := by simp; omega
    have e2 : (j + 1) * 2 + 1 - [a.u, .int .i64 a.wt].length = j * 2 + 1 := by simp; omega
    rw [e1, e2]
    exact this
theorem rowA_snoc (A : List ArcM) (a : ArcM) : rowA (A ++ [a]) = rowA A ++ (arcV a).toList := by unfold rowA; simp
theorem rowR_snoc (q : List RS) (x : RS) : rowR (q ++ [x]) = rowR q ++ [x.u, .int .i64 x.wt] := by unfold rowR; simp
theorem arcs_own {O : Nat → Prop} {W : World} {base : Nat} {u : Value} {A : List ArcM} (h : W.ownsRow base 63 3 u A.length (rowA A)) (hl : A.length ≤ 1000000) (hO : ∀ x, u.ownBlock = some x → ¬ O x) : ArcsAre O W u A := by
  rcases h.2 with ⟨rfl, hn⟩ | ⟨g, cap, cur, rfl, hb, hg, hnc, hcm, hcs, htake⟩
  · refine ⟨none, 0, by rw [hn], hl, fun x e => (nomatch e), fun j x hj => ?_⟩
    have := (List.getElem?_eq_some_iff.1 hj).1
    omega
  · have hgl : g < W.heap.size := (Array.getElem?_eq_some_iff.1 hg).1
    refine ⟨_, cap, rfl, hl, fun x e => by cases e; exact ⟨hgl, hO g rfl⟩, fun j x hj => ⟨g, 0, rfl, hgl, hO g rfl, fun i hi => ?_⟩⟩
    have := h.cells (g := g) rfl (j * 3 + i) _ (rowA_at A j x hj i hi)
    rw [add_plain] at this
    rw [Nat.zero_add]
    exact this
theorem rests_own {O : Nat → Prop} {W : World} {base : Nat} {u : Value} {q : List RS} (h : W.ownsRow base 50 2 u q.length (rowR q)) (hl : q.length ≤ 4096) (hO : ∀ x, u.ownBlock = some x → ¬ O x) (hr : ∀ x ∈ q, IntsC O W .i32 x.u x.r) : RestsAre O W u q := by
  refine ⟨?_, hr, hl⟩
  rcases h.2 with ⟨rfl, hn⟩ | ⟨g, cap, cur, rfl, hb, hg, hnc, hcm, hcs, htake⟩
  · refine ⟨none, 0, by rw [hn], by omega, fun j x hj => ?_⟩
    have := (List.getElem?_eq_some_iff.1 hj).1
    omega
  · have hgl : g < W.heap.size := (Array.getElem?_eq_some_iff.1 hg).1
    refine ⟨_, cap, rfl, hnc, fun j x hj => ⟨g, 0, rfl, hgl, hO g rfl, ?_, ?_⟩⟩
    · have := h.cells (g := g) rfl (j * 2) _ (rowR_at q j x hj).1
      rw [add_plain] at this
      rw [Nat.zero_add]; exact this
    · have := h.cells (g := g) rfl (j * 2 + 1) _ (rowR_at q j x hj).2
      rw [add_plain] at this
      rw [Nat.zero_add]; exact this
theorem info_arc : ∃ i z, Tryd.prog.info? 63 = some i ∧ i.zero = some z ∧ i.size = 3 ∧ i.bytes = 24 ∧ z.cells.size = 3 := by
  have h : (Tryd.prog.info? 63).map (fun i => (i.zero.map (·.cells.size), i.size, i.bytes)) = some (some 3, 3, 24) := by kernel_rfl
  cases hq : Tryd.prog.info? 63 with
  | none => rw [hq] at h; cases h
  | some i =>
    rw [hq] at h
    simp only [Option.map_some, Option.some.injEq, Prod.mk.injEq] at h
    cases hz : i.zero with
    | none => rw [hz] at h; cases h.1
    | some z =>
      rw [hz] at h
      simp only [Option.map_some, Option.some.injEq] at h
      exact ⟨i, z, rfl, hz, h.2.1, h.2.2, h.1⟩
theorem info_rest : ∃ i z, Tryd.prog.info? 50 = some i ∧ i.zero = some z ∧ i.size = 2 ∧ i.bytes = 32 ∧ z.cells.size = 2 := by
  have h : (Tryd.prog.info? 50).map (fun i => (i.zero.map (·.cells.size), i.size, i.bytes)) = some (some 2, 2, 32) := by kernel_rfl
  cases hq : Tryd.prog.info? 50 with
  | none => rw [hq] at h; cases h
  | some i =>
    rw [hq] at h
    simp only [Option.map_some, Option.some.injEq, Prod.mk.injEq] at h
    cases hz : i.zero with
    | none => rw [hz] at h; cases h.1
    | some z =>
      rw [hz] at h
      simp only [Option.map_some, Option.some.injEq] at h
      exact ⟨i, z, rfl, hz, h.2.1, h.2.2, h.1⟩
/-- what is not to be written but by the loop -/
def LoopO (b : Bd) (v' : Value) (sB : Nat) (u : Value) : Nat → Prop := fun x => Bd.O { b with v := v' } x ∨ x = sB ∨ u.ownBlock = some x
def LoopF (F : Nat → Prop) (sB : Nat) (u : Value) : Nat → Prop := fun x => F x ∨ x = sB ∨ u.ownBlock = some x
/-- the loop over the first runes: what holds ahead of each round -/
structure LI (b : Bd) (w : World) (sB n : Nat) (lo : Int) (fin : Bool) (out : Int) (R : List ArcM × List StM) (N C2 : Nat) (F : Nat → Prop) (W : World) (s1 v' : Value) (S : List StM) (C : Nat) (q : List RS) (A : List ArcM) (u : Value) : Prop where
  bok : Bok W { b with v := v' } S C (LoopF F sB u)
  rests : RestsAre (LoopO b v' sB u) W s1 q
  ok : RwOk (n + 1) (rw q)
  ne : ∀ y ∈ rw q, y.1 ≠ []
  res : ∃ m, q.length ≤ m ∧ (A ++ (arcsF (stateF n) lo m S (rw q)).1, (arcsF (stateF n) lo m S (rw q)).2) = R
  box : Blk W sB 61 #[.bool fin, .int .i64 out, u]
  row : W.ownsRow (sB + 1) 63 3 u A.length (rowA A)
  turn : Turn b.O w W
  old : ∀ x, x < w.heap.size → Bd.O { b with v := v' } x → b.O x
  far : ¬ Bd.O { b with v := v' } sB ∧ ∀ x, u.ownBlock = some x → ¬ Bd.O { b with v := v' } x
  sb : w.heap.size ≤ sB
  cS : S.length + tot (rw q) ≤ N
  cC : C + A.length + 2 * tot (rw q) ≤ C2
  arcs : ∀ a ∈ A, ArcOk a
  few : A.length + q.length ≤ 4096
theorem rw_cons (x : RS) (q : List RS) : rw (x :: q) = (x.r, x.wt) :: rw q := rfl
theorem LI.lt {b : Bd} {w : World} {sB n : Nat} {lo : Int} {fin : Bool} {out : Int} {R : List ArcM × List StM} {N C2 : Nat} {F : Nat → Prop} {W : World} {s1 v' : Value} {S : List StM} {C : Nat} {q : List RS} {A : List ArcM} {u : Value} (h : LI b w sB n lo fin out R N C2 F W s1 v' S C q A u) :
    ∀ x, LoopO b v' sB u x → x < W.heap.size := fun x hx => by
  rcases hx with hx | rfl | hx
  · exact h.bok.O_lt hx
  · exact h.box.lt
  · exact (h.row.lt x hx).2
theorem rw_len (q : List RS) : (rw q).length = q.length := by unfold rw; simp
theorem arcsF_cons (st : List StM → List Rw → List StM × Nat) (lo : Int) (m : Nat) (S : List StM) (x : Rw) (l : List Rw) : arcsF st lo (m + 1) S (x :: l) =
    (⟨x.1.headD 0, low (under (x.1.headD 0) (x :: l)) - lo, ((st S (under (x.1.headD 0) (x :: l))).2 : Nat)⟩ :: (arcsF st lo m (st S (under (x.1.headD 0) (x :: l))).1 (after (x.1.headD 0) (x :: l))).1, (arcsF st lo m (st S (under (x.1.headD 0) (x :: l))).1 (after (x.1.headD 0) (x :: l))).2) := rfl
theorem stateF_len : ∀ (n : Nat) (S : List StM) (l : List Rw), RwOk n l → (stateF n S l).1.length ≤ S.length + tot l + 1 ∧ (stateF n S l).2 ≤ S.length + tot l := by
  intro n
  induction n with
  | zero => intro S l h; exact ⟨by simp [stateF]; omega, by simp [stateF]⟩
  | succ n ih =>
    intro S l h
    have key : ∀ (m : Nat) (S : List StM) (l : List Rw) (lo : Int), RwOk (n + 1) l → (∀ y ∈ l, y.1 ≠ []) → (arcsF (stateF n) lo m S l).2.length ≤ S.length + tot l := by
      intro m
      induction m with
      | zero => intro S l lo _ _; simp [arcsF]
      | succ m ihm =>
        intro S l lo hl hne
        cases l with
        | nil => simp [arcsF]
        | cons x l =>
          obtain ⟨h1, _⟩ := ih S (under (x.1.headD 0) (x :: l)) (hl.under _)
          have h2 := ihm (stateF n S (under (x.1.headD 0) (x :: l))).1 (after (x.1.headD 0) (x :: l)) lo (hl.after _) (fun y hy => hne y (after_mem hy))
          have h3 := tot_under (x.1.headD 0) (x :: l)
          have h4 : 0 < (under (x.1.headD 0) (x :: l)).length := List.length_pos_iff.2 (under_ne (hne x (List.mem_cons_self)))
          show (arcsF (stateF n) lo m (stateF n S (under (x.1.headD 0) (x :: l))).1 (after (x.1.headD 0) (x :: l))).2.length ≤ _
          omega
    obtain ⟨b1, b2⟩ := h.body
    have h1 := key (body l).length S (body l) (low l) b1 b2
    have h2 := tot_body l
    have h3 := addS_len (arcsF (stateF n) (low l) (body l).length S (body l)).2 ⟨isFin l, outOf l, (arcsF (stateF n) (low l) (body l).length S (body l)).1⟩
    refine ⟨?_, ?_⟩
    · show (addS _ _).1.length ≤ _
      omega
    · show (addS _ _).2 ≤ _
      have : (addS (arcsF (stateF n) (low l) (body l).length S (body l)).2 ⟨isFin l, outOf l, (arcsF (stateF n) (low l) (body l).length S (body l)).1⟩).2 ≤ (arcsF (stateF n) (low l) (body l).length S (body l)).2.length := by
        unfold addS
        split
        · rename_i k hk
          exact Nat.le_of_lt (List.findIdx?_eq_some_iff_getElem.1 hk).1
        · simp
      omega
theorem LI.next {b : Bd} {w : World} {sB n : Nat} {lo : Int} {fin : Bool} {out : Int} {R : List ArcM × List StM} {N C2 : Nat} {F : Nat → Prop} {wa : World} {s1 v' : Value} {S : List StM} {C : Nat} {x : RS} {q : List RS} {A : List ArcM} {u : Value} (hL : LI b w sB n lo fin out R N C2 F wa s1 v' S C (x :: q) A u)
    (hlo : 0 ≤ lo ∧ lo ≤ 1048576) (hN : N ≤ 1000000) {c : Int} {r' : List Int} (hx : x.r = c :: r') {q2 qr : List RS} (hq2 : rw q2 = under c (rw (x :: q))) (hqr : rw qr = after c (rw (x :: q))) {s1' : Value} (hrr : RestsAre (LoopO b v' sB u) wa s1' qr)
    {W2 : World} {v2 : Value} {S2 : List StM} {t2 : Nat} (hst : stateF n S (rw q2) = (S2, t2)) (hB2 : Bok W2 { b with v := v2 } S2 (C + 2 * tot (rw q2) + 1) (LoopF F sB u)) (hT : Turn (Bd.O { b with v := v' }) wa W2) (hO : ∀ x, x < wa.heap.size → Bd.O { b with v := v2 } x → Bd.O { b with v := v' } x)
    {a : ArcM} (ha : a = ⟨c, low (rw q2) - lo, (t2 : Nat)⟩) {W3 : World} (hb3 : Below W2.heap.size W2 W3) (hz3 : W2.heap.size ≤ W3.heap.size) {W4 : World} {u4 : Value} (own4 : W4.ownsRow (sB + 1) 63 3 u4 (A.length + 1) (rowA A ++ (arcV a).toList)) (grow4 : W3.grownBy W4 u.ownBlock) (new4 : u4.ownBlock = u.ownBlock ∨ u4.ownBlock = some W3.heap.size) :
    LI b w sB n lo fin out R N C2 F (W4.setCell ⟨sB, 2, none⟩ u4) s1' v2 S2 (C + 2 * tot (rw q2) + 1) qr (A ++ [a]) u4 := by
  have hu : ∀ y, u.ownBlock = some y → sB < y ∧ y < wa.heap.size := fun y hy => ⟨by have := owns_base hL.row y hy; omega, (hL.row.lt y hy).2⟩
  have hsl := hL.box.lt
  have hz2 := hT.size
  have hz4 := grow4.size
  have hsb := hL.sb
  have t5 : Turn (fun y => y = sB ∨ u.ownBlock = some y) W2 (W4.setCell ⟨sB, 2, none⟩ u4) := by
    refine ⟨by simp; omega, grow4.os.trans hb3.os, grow4.tape.trans hb3.tape, grow4.output.trans hb3.output, fun y hy hn => ?_⟩
    rw [show (W4.setCell ⟨sB, 2, none⟩ u4).heap[y]? = W4.heap[y]? from Below.heap_setCell _ _ _ _ (fun e => hn (.inl e)), grow4.block y (by omega) (fun e => hn (.inr e.symm))]
    exact hb3.block y hy
  have t25 : Turn (LoopO b v' sB u) wa (W4.setCell ⟨sB, 2, none⟩ u4) := ((hT.more (fun _ _ h => .inl h)).trans t5 (fun y hy h => .inr h))
  have hB5 : Bok (W4.setCell ⟨sB, 2, none⟩ u4) { b with v := v2 } S2 (C + 2 * tot (rw q2) + 1) (LoopF F sB u4) := hB2.turn2 t5 (fun y hy h => ⟨.inr h, fun ho => by
    rcases h with rfl | h
    · exact hL.far.1 (hO _ hsl ho)
    · exact hL.far.2 y h (hO y (hu y h).2 ho)⟩) (fun y hy h => by
    rcases h with h | h | h
    · exact .inl h
    · exact .inr (.inl h)
    · rcases new4 with e | e
      · exact .inr (.inr (e ▸ h))
      · rw [e] at h; cases h; omega)
  have ho5 : ∀ y, y < wa.heap.size → LoopO b v2 sB u4 y → LoopO b v' sB u y := fun y hy h => by
    rcases h with h | h | h
    · exact .inl (hO y hy h)
    · exact .inr (.inl h)
    · rcases new4 with e | e
      · exact .inr (.inr (e ▸ h))
      · rw [e] at h; cases h; omega
  have hcx : x.r.headD 0 = c := by rw [hx]; rfl
  have hg := tot_under c (rw (x :: q))
  have hun : under c (rw (x :: q)) ≠ [] := by
    have := under_ne (x := (x.r, x.wt)) (l := rw q) (by rw [hx]; simp)
    rw [show ((x.r, x.wt) : Rw).1.headD 0 = c from hcx] at this
    exact this
  have hpos : 0 < (rw q2).length := by rw [hq2]; exact List.length_pos_iff.2 hun
  have hln : (under c (rw (x :: q))).length + (after c (rw (x :: q))).length = (x :: q).length := by
    have h1 := congrArg List.length (group_after c (rw (x :: q)))
    rw [under_group, List.length_map, ← rw_len]
    rw [List.length_append] at h1
    exact h1.symm
  have e1 := rw_len q2
  have e2 := rw_len qr
  have hok2 : RwOk n (rw q2) := by rw [hq2]; exact hL.ok.under c
  obtain ⟨k1, k2⟩ := stateF_len n S (rw q2) hok2
  rw [hst] at k1 k2
  dsimp only at k1 k2
  have cS := hL.cS
  have cC := hL.cC
  have few := hL.few
  rw [hq2] at k1 k2 hpos e1
  have hcr : 0 ≤ c ∧ c ≤ 1114111 := hL.ok.runes (x.r, x.wt) (List.mem_cons_self) c (by rw [hx]; exact List.mem_cons_self)
  have hlow : 0 ≤ low (rw q2) ∧ low (rw q2) ≤ 1048576 := by
    obtain ⟨y, hy, e⟩ := low_mem (l := rw q2) (by rw [hq2]; exact hun)
    rw [e]; exact hok2.wt y hy
  refine ⟨hB5, hrr.turn t25 ho5, by rw [hqr]; exact hL.ok.after c, by rw [hqr]; exact fun y hy => hL.ne y (after_mem hy), ?_, ?_, ?_, ?_, fun y hy h => hL.old y hy (hO y (Nat.lt_of_lt_of_le hy hL.turn.size) h), ⟨fun h => hL.far.1 (hO _ hsl h), fun y hy ho => ?_⟩, hsb, ?_, ?_, ?_, ?_⟩
  · obtain ⟨m, hm, e⟩ := hL.res
    cases m with
    | zero => simp at hm
    | succ m =>
      refine ⟨m, ?_, ?_⟩
      · rw [← e2, hqr]; rw [List.length_cons] at hm hln; omega
      · rw [← e, rw_cons]
        rw [arcsF_cons, show ((x.r, x.wt) : Rw).1.headD 0 = c from hcx, ← rw_cons, ← hq2, ← hqr, hst, ha]
        simp
  · have hB : Blk W2 sB 61 #[.bool fin, .int .i64 out, u] := hT.blk hL.box hL.far.1
    have hB4 : Blk W4 sB 61 #[.bool fin, .int .i64 out, u] := (grow4.block sB (by omega) (fun e => by have := (hu sB e.symm).1; omega)).trans (hB.below hb3 hB.lt)
    exact hB4.set 2 u4
  · rw [rowA_snoc, List.length_append]
    exact owns_kept own4 (fun y hy => Below.heap_setCell _ _ _ _ (fun e => by have := owns_base own4 y hy; have e' : y = sB := e; omega))
  · refine ⟨Nat.le_trans hL.turn.size t25.size, t25.os.trans hL.turn.os, t25.tape.trans hL.turn.tape, t25.output.trans hL.turn.output, fun y hy hn => ?_⟩
    have hy' := Nat.lt_of_lt_of_le hy hL.turn.size
    rw [t25.kept y hy' (fun h => ?_)]
    · exact hL.turn.kept y hy hn
    · rcases h with h | h | h
      · exact hn (hL.old y hy h)
      · omega
      · have := (hu y h).1; omega
  · rcases new4 with e | e
    · have h' : u.ownBlock = some y := e ▸ hy
      exact hL.far.2 y h' (hO y (hu y h').2 ho)
    · have := hB2.O_lt ho
      rw [e] at hy; cases hy; omega
  · rw [hqr]; omega
  · rw [hqr, List.length_append, hq2]
    simp only [List.length_cons, List.length_nil]
    omega
  · intro y hy
    rcases List.mem_append.1 hy with hy | hy
    · exact hL.arcs y hy
    · simp only [List.mem_singleton] at hy
      subst hy
      rw [ha]
      exact ⟨(i64_iff _).2 (by dsimp only; omega), (i64_iff _).2 (by dsimp only; omega), (i64_iff _).2 (by dsimp only; omega), (i32_iff _).2 (by dsimp only; omega)⟩
  · rw [List.length_append, ← e2, hqr]
    simp only [List.length_cons, List.length_nil] at few hln ⊢
    omega
theorem Turn.trans' {b : Bd} {v' : Value} {a c d : World} (k : Turn (Bd.O { b with v := v' }) c d) (h : Turn b.O a c) (ho : ∀ x, x < a.heap.size → Bd.O { b with v := v' } x → b.O x) : Turn b.O a d := h.trans k ho
theorem below_grown' {B : Nat} {w u v : World} {row : Option Nat} (h : Below B w u) (hg : u.grownBy v row) (hB : B ≤ u.heap.size) (hr : ∀ k, row = some k → B ≤ k) : Below B w v := h.grown hg hB hr
def slLen : Value → Nat | .slice _ n _ => n | _ => 0
theorem rw_append (a b : List RS) : rw (a ++ b) = rw a ++ rw b := by unfold rw; simp
end Go.Proofs.YtkibkbbjpgomlaaDoor.F
