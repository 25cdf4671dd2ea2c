/-
  Whatever a node is asked, no two candidates are given its vote in one term.
-/
import Derived.Test.YtmokfpjiibociaaRulGrantB
import Derived.Test.YtmokfpjiibociaaShut
import Derived.Deep.Slices
import Derived.Deep.Strs
namespace Go.Proofs.Ytmokfpjiibociaa.R
open Go.ChangeShapes Go.WideShapes Go.ChangeAt Go.RowKit
open Aid
set_option linter.unusedSimpArgs false
set_option linter.unusedVariables false

/-- a slice value whose elements read as asks, by their index -/
def Asks (w : World) (v : Value) (n : Nat) (T C : Nat → Int) (F : Nat → Bool) : Prop := n ≤ 140737488355328 ∧ ∃ a cap, v = .slice a n cap ∧ ∀ k, k < n → ∃ b o, a = some ⟨b, o, none⟩ ∧ b < w.heap.size ∧
  w.cell? ⟨b, o + k * 3, none⟩ = some (.int .u64 (T k)) ∧ w.cell? ⟨b, o + k * 3 + 1, none⟩ = some (.int .i64 (C k)) ∧ w.cell? ⟨b, o + k * 3 + 2, none⟩ = some (.bool (F k))
theorem Asks.below {w w' : World} {v : Value} {n : Nat} {T C : Nat → Int} {F : Nat → Bool} (h : Asks w v n T C F) (hb : Below w.heap.size w w') : Asks w' v n T C F := by
  obtain ⟨h0, a, cap, hv, h⟩ := h
  refine ⟨h0, a, cap, hv, fun k hk => ?_⟩
  obtain ⟨b, o, h1, h2, h3, h4, h5⟩ := h k hk
  exact ⟨b, o, h1, by have := hb.size; omega, (hb.cell (p := ⟨b, o + k * 3, none⟩) h2).trans h3, (hb.cell (p := ⟨b, o + k * 3 + 1, none⟩) h2).trans h4, (hb.cell (p := ⟨b, o + k * 3 + 2, none⟩) h2).trans h5⟩
theorem Asks.arg {H : Type} {enc : TypeId × Value → H} {P : Program} {W : World} {b0 : Nat} {t e : TypeId} {f0 f1 f2 : Field} {v : Value} {d : DataW H} {p : List MemPlace} {r : Reach}
    (ht : P.underlying t = some (.slice e)) (hs : P.underlying e = some (.struct #[f0, f1, f2])) (hC : P.cellsOf e = 3) (o0 : f0.offset = 0) (o1 : f1.offset = 1) (o2 : f2.offset = 2) (c0 : P.cellsOf f0.type = 1) (c1 : P.cellsOf f1.type = 1) (c2 : P.cellsOf f2.type = 1)
    (h0 : P.underlying f0.type = some (.int .u64)) (h1 : P.underlying f1.type = some (.int .i64)) (h2 : P.underlying f2.type = some .bool) (hval : Value.okWide P W r b0 t v)
    (h : DataW.Trod enc P W 0 (fun _ => true) true t v d p) (hsize : ∀ elems spare, d = .slice elems spare → elems.length ≤ 140737488355328) : ∃ n T C F, Asks W v n T C F := by
  obtain ⟨a0, len, cap, rfl⟩ : ∃ a l c, v = .slice a l c := okWide_slice ht hval
  obtain ⟨fuel, hf⟩ := h
  rcases Go.Deep.open_slice ht hf with ⟨hcs, hx⟩ | ⟨a', len', cap', m, n, D, Pl, hcs, hab, hl, hm, hmm, hx, hel⟩
  · simp [Value.cells] at hcs
    obtain ⟨rfl, rfl, rfl⟩ := hcs
    exact ⟨0, fun _ => 0, fun _ => 0, fun _ => false, by omega, none, 0, rfl, fun k hk => by omega⟩
  · simp [Value.cells] at hcs
    obtain ⟨rfl, rfl, rfl⟩ := hcs
    simp only [if_true] at hmm
    subst hmm
    simp only [Prod.mk.injEq] at hx
    have hn := hsize _ _ hx.1
    simp only [List.length_map, List.length_range] at hn
    have hrd : ∀ k, ∃ (x y : Int) (z : Bool), k < len → W.cell? (a'.add (k * 3)) = some (.int .u64 x) ∧ W.cell? (a'.add (k * 3 + 1)) = some (.int .i64 y) ∧ W.cell? (a'.add (k * 3 + 2)) = some (.bool z) := by
      intro k
      by_cases hk : k < len
      · obtain ⟨cs, hcs, htr⟩ := hel k (by omega)
        rw [hC] at hcs
        obtain ⟨y0, y1, y2, q, _, hlen, g0, g1, g2⟩ := Go.Deep.trod_struct3 hs htr
        rw [hC] at hlen
        rw [o0, c0] at g0
        rw [o1, c1] at g1
        rw [o2, c2] at g2
        obtain ⟨x, e0, _, _⟩ := DataW.trod_int h0 g0
        obtain ⟨y, e1, _, _⟩ := DataW.trod_int h1 g1
        obtain ⟨z, e2, _⟩ := DataW.trod_bool h2 g2
        obtain ⟨q0, q1, q2, rfl⟩ : ∃ q0 q1 q2, cs = [q0, q1, q2] := by
          match cs, hlen with
          | [q0, q1, q2], _ => exact ⟨q0, q1, q2, rfl⟩
        simp at e0 e1 e2
        subst e0 e1 e2
        have hh := (World.cells?_some hcs).2.2
        have j0 := hh 0 (by omega)
        have j1 := hh 1 (by omega)
        have j2 := hh 2 (by omega)
        rw [Addr.add_add] at j0 j1 j2
        exact ⟨x, y, z, fun _ => ⟨by simpa using j0, by simpa using j1, by simpa using j2⟩⟩
      · exact ⟨0, 0, false, fun h => absurd h hk⟩
    obtain ⟨T, C, F, hc⟩ : ∃ (T C : Nat → Int) (F : Nat → Bool), ∀ k, k < len → W.cell? (a'.add (k * 3)) = some (.int .u64 (T k)) ∧ W.cell? (a'.add (k * 3 + 1)) = some (.int .i64 (C k)) ∧ W.cell? (a'.add (k * 3 + 2)) = some (.bool (F k)) :=
      ⟨fun k => (hrd k).choose, fun k => (hrd k).choose_spec.choose, fun k => (hrd k).choose_spec.choose_spec.choose, fun k => (hrd k).choose_spec.choose_spec.choose_spec⟩
    refine ⟨len, T, C, F, by omega, some a', _, rfl, fun k hk => ?_⟩
    obtain ⟨b, off, spot⟩ := a'
    obtain ⟨i0, i1, i2⟩ := hc k hk
    have hspot : spot = none := by
      have := (hc 0 (by omega)).1
      simpa [Addr.add] using World.cell?_spot this
    subst hspot
    have add : ∀ j, (⟨b, off, none⟩ : Addr).add j = ⟨b, off + j, none⟩ := fun j => by unfold Addr.add; split <;> simp_all
    rw [add] at i0 i1 i2
    refine ⟨b, off, rfl, ?_, i0, ?_, ?_⟩
    · have := World.block_lt_of_cell? W _ i0; exact this
    · rw [Nat.add_assoc]; exact i1
    · rw [Nat.add_assoc]; exact i2

def ask3 (x : Int × Int × Bool) : List Value := [.int .u64 x.1, .int .i64 x.2.1, .bool x.2.2]
def asksV (G : List (Int × Int × Bool)) : List Value := G.flatMap ask3
theorem asks_len (G : List (Int × Int × Bool)) : (asksV G).length = G.length * 3 := by
  induction G with
  | nil => rfl
  | cons a G ih => simp only [asksV, List.flatMap_cons, List.length_append] at *; rw [ih]; simp [ask3]; omega
theorem asks_get : ∀ (G : List (Int × Int × Bool)) (j : Nat) (h : j < G.length), (asksV G)[j * 3]? = some (.int .u64 G[j].1) ∧ (asksV G)[j * 3 + 1]? = some (.int .i64 G[j].2.1) ∧ (asksV G)[j * 3 + 2]? = some (.bool G[j].2.2)
  | [], _, h => by simp at h
  | a :: G, 0, _ => by simp [asksV, ask3]
  | a :: G, j + 1, h => by
    have := asks_get G j (by simpa using h)
    have e : asksV (a :: G) = ask3 a ++ asksV G := by simp [asksV]
    rw [e]
    have l3 : (ask3 a).length = 3 := rfl
    rw [List.getElem?_append_right (by omega), List.getElem?_append_right (by omega), List.getElem?_append_right (by omega), l3]
    rw [show (j + 1) * 3 - 3 = j * 3 by omega, show (j + 1) * 3 + 1 - 3 = j * 3 + 1 by omega, show (j + 1) * 3 + 2 - 3 = j * 3 + 2 by omega]
    simpa using this

/-- 'append(v, u)', v a row of the call's own whose elements are of several cells: u's have just been laid in a block. -/
theorem wpList_pushN {P : Program} {ops : Array Oper} {rest : List Oper} {o : Oper} {a : Act} {Q : Exit → Act → World → Prop} (w : World)
    (hw : Region.wanted o (yielded ops a.tmps) = true) (s x : Operand) (t : TypeId)
    (ho : o.op = .call { callee := .builtin .append, args := #[s, x], argTypes := #[t, t] })
    (base : Nat) (e : TypeId) (i : TypeInfo) (z : Value) (size bytes : Nat) (ht : P.underlying t = some (.slice e)) (hi : P.info? e = some i) (hz : i.zero = some z)
    (hsize : i.size = size) (hby : i.bytes = bytes) (hzs : z.cells.size = size) (hsz : 0 < size)
    (v : Value) (n : Nat) (xs : List Value) (hs : a.eval s = v) (hown : w.ownsRow base e size v n xs) (g : Nat) (us : List Value) (hx : a.eval x = .slice (some ⟨g, 0, none⟩) 1 1) (hl : us.length = size)
    (hc : ∀ j u, us[j]? = some u → w.cell? ⟨g, j, none⟩ = some u) (h1 : ∀ u ∈ us, u.oneCell' = true) (h63 : n + 1 ≤ maxLen) (hbytes : (n + 1) * bytes ≤ 140737488355328) (hbase : base ≤ w.heap.size)
    (h : ∀ v' w', w'.ownsRow base e size v' (n + 1) (xs ++ us) → Below base w w' → w.grownBy w' v.ownBlock → wpList P ops Q rest (a.put o.dst v') w') : wpList P ops Q (o :: rest) a w := by
  refine wpList_want hw fun K hK => ?_
  refine wp_append_own w s x t ho base e i z size bytes ht hi hz hsize hby hzs hsz v n xs hs hown ⟨g, 0, none⟩ 1 1 us hx (by omega) ?_ h1 h63 hbytes hbase ?_
  · intro j u hj
    have : (⟨g, 0, none⟩ : Addr).add j = ⟨g, j, none⟩ := by unfold Addr.add; split <;> simp_all
    rw [this]; exact hc j u hj
  · intro v' w' h2 h3 _
    refine hK _ _ (h v' w' h2 (below_of_grown h3 hbase ?_) h3)
    intro k hk
    rcases hown.2 with ⟨rfl, _⟩ | ⟨q, cap, cur, rfl, hb, _⟩
    · simp [Value.ownBlock] at hk
    · simp [Value.ownBlock] at hk; omega

theorem Blk.grown {w w' : World} {g : Nat} {t : TypeId} {cs : Array Value} {row : Option Nat} (h : Blk w g t cs) (hg : w.grownBy w' row) (hne : ∀ q, row = some q → q ≠ g) : Blk w' g t cs := by
  unfold Blk at h ⊢
  rw [hg.block g (Blk.lt h) (fun e => hne g e.symm rfl)]; exact h
/-- what is kept of those that were given a vote -/
def Kept (ht hv : Int) (G : List (Int × Int × Bool)) : Prop := ∀ b ∈ G, 0 ≤ b.2.1 ∧ (b.1 < ht ∨ (b.1 = ht ∧ b.2.1 = hv))
theorem grant_cases (ht hv t c : Int) (n : Bool) : (t < ht ∧ grantF ht hv t c n = ((ht, hv), false)) ∨ (ht ≤ t ∧ ∃ v, (ht < t ∧ v = -1 ∨ t = ht ∧ v = hv) ∧ ((v = -1 ∨ v = c) ∧ grantF ht hv t c n = ((t, c), true) ∨ grantF ht hv t c n = ((t, v), false))) := by
  unfold grantF
  by_cases e1 : t < ht
  · rw [if_pos e1]; exact .inl ⟨e1, rfl⟩
  · rw [if_neg e1]
    refine .inr ⟨by omega, (if ht < t then -1 else hv), ?_, ?_⟩
    · by_cases e2 : ht < t
      · rw [if_pos e2]; exact .inl ⟨e2, rfl⟩
      · rw [if_neg e2]; exact .inr ⟨by omega, rfl⟩
    · dsimp only
      by_cases e3 : n = true ∧ ((if ht < t then -1 else hv) = -1 ∨ (if ht < t then -1 else hv) = c)
      · rw [if_pos e3]; exact .inl ⟨e3.2, rfl⟩
      · rw [if_neg e3]; exact .inr rfl
theorem grant_up (ht hv t c : Int) (n : Bool) : ht ≤ (grantF ht hv t c n).1.1 := by
  rcases grant_cases ht hv t c n with ⟨h1, h2⟩ | ⟨h1, v, h3, ⟨h4, h2⟩ | h2⟩ <;> rw [h2] <;> simp <;> omega
theorem grant_to {ht hv t c : Int} {n : Bool} (h : (grantF ht hv t c n).2 = true) : (grantF ht hv t c n).1 = (t, c) := by
  rcases grant_cases ht hv t c n with ⟨h1, h2⟩ | ⟨h1, v, h3, ⟨h4, h2⟩ | h2⟩
  · rw [h2] at h; cases h
  · rw [h2]
  · rw [h2] at h; cases h
theorem kept_no {ht hv t c : Int} {n : Bool} {G : List (Int × Int × Bool)} (hk : Kept ht hv G) : Kept (grantF ht hv t c n).1.1 (grantF ht hv t c n).1.2 G := by
  intro b hb
  obtain ⟨h1, h2⟩ := hk b hb
  refine ⟨h1, ?_⟩
  rcases grant_cases ht hv t c n with ⟨h3, h4⟩ | ⟨h3, v, h5, ⟨h6, h4⟩ | h4⟩ <;> rw [h4] <;> simp <;> omega
theorem kept_one {ht hv t c : Int} {n : Bool} {G : List (Int × Int × Bool)} (hk : Kept ht hv G) (hg : (grantF ht hv t c n).2 = true) : ∀ b ∈ G, b.1 = t → b.2.1 = c := by
  intro b hb e
  have h1 := grant_to hg
  have h2 := kept_no (t := t) (c := c) (n := n) hk b hb
  rw [h1] at h2
  rcases h2.2 with h3 | h3
  · simp at h3; omega
  · exact h3.2
theorem kept_more {ht hv t c : Int} {n : Bool} {G : List (Int × Int × Bool)} (hk : Kept ht hv G) (hc : 0 ≤ c) (hg : (grantF ht hv t c n).2 = true) : Kept t c (G ++ [(t, c, n)]) := by
  have h1 := grant_to hg
  have h2 := kept_no (t := t) (c := c) (n := n) hk
  rw [h1] at h2
  intro b hb
  rcases List.mem_append.1 hb with hb | hb
  · exact h2 b hb
  · simp at hb; subst hb; exact ⟨hc, .inr ⟨rfl, rfl⟩⟩
end Go.Proofs.Ytmokfpjiibociaa.R
