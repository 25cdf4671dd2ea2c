/-
  Append onto a row that lies anywhere, in a region.
-/
import Derived.Test.YtcpkpljeimbdiaaWalLog
import Derived.Deep.RegionLaw
import Derived.Deep.RegionHeld3
namespace Go.Proofs.Ytcpkpljeimbdiaa.W
open Go.RowKit
open Aid K
set_option linter.unusedSimpArgs false
set_option linter.unusedVariables false

theorem run_append_off {P : Program} (w : World) (t : TypeId) (T : TypeId) (i : TypeInfo) (z : Value) (size bytes : Nat) (h1 : P.underlying t = some (.slice T)) (h2 : P.info? T = some i) (h3 : i.zero = some z) (h4 : i.size = size) (h5 : i.bytes = bytes) (h6 : z.cells.size = size) (h7 : 0 < size) (hT : T ≠ 9)
    (v : Value) (n : Nat) (xs : List Value) (hR : OffRow w T size v n xs)
    (ad : Addr) (m c : Nat) (news : List Value) (hn : news.length = m * size) (hc : ∀ j u, news[j]? = some u → w.cell? (ad.add j) = some u) (h1c : ∀ u ∈ news, u.oneCell' = true)
    (b1 : n + m ≤ maxLen) (b2 : (n + m) * bytes ≤ 140737488355328) :
    ∃ v' w', (∀ ty, (Builtin.append_ #[t, t] ty #[v, .slice (some ad) m c]).run P w = .ok v' w') ∧ OffRow w' T size v' (n + m) (xs ++ news) ∧ Keeps (fun k => v.ownBlock = some k) w w' ∧ (∀ k, v'.ownBlock = some k → v.ownBlock = some k ∨ w.heap.size ≤ k) := by
  have hown : ∀ v' (w' : World), w'.ownsRow w.heap.size T size v' (n + m) (xs ++ news) → w.grownBy w' none → OffRow w' T size v' (n + m) (xs ++ news) ∧ Keeps (fun k => v.ownBlock = some k) w w' ∧ (∀ k, v'.ownBlock = some k → v.ownBlock = some k ∨ w.heap.size ≤ k) := fun v' w' ho hb =>
    ⟨OffRow.of_own ho, Keeps.of_below (below_of_grown hb (Nat.le_refl _) (fun _ e => (nomatch e))), fun k hk => .inr (by
      rcases ho.2 with ⟨e, _⟩ | ⟨g, cap, cur, e, hb2, _⟩
      · rw [e] at hk; cases hk
      · rw [e] at hk; cases hk; exact hb2)⟩
  obtain ⟨hl, ⟨rfl, rfl⟩ | ⟨b, off, cap, cur, rfl, hb, e1, e2, e3, e4⟩⟩ := hR
  · obtain rfl : xs = [] := List.eq_nil_of_length_eq_zero (by omega)
    obtain ⟨v', w', hrun, r1, r2, _⟩ := run_append_own (P := P) w w.heap.size t t T i z size bytes h1 h2 h3 h4 h5 h6 h7 (.slice none 0 0) 0 [] (World.ownsRow_nil w _ T size) ad m c news hn hc h1c b1 b2 (Nat.le_refl _)
    exact ⟨v', w', fun _ => hrun, hown v' w' r1 r2⟩
  · by_cases hr : n + m ≤ cap
    · have e5 := Nat.mul_le_mul_right size hr
      rw [Nat.add_mul] at e5
      have hrun := run_append_room_cells (P := P) w t t T i h1 h2 b off n cap ad m c news (by rw [h4]; exact hn) hc h1c hr
        (fun j hj => by rw [h4, hb.cell, Array.getElem?_eq_getElem (by omega)]; rfl) (fun j hj => hb.free _)
      rw [h4] at hrun
      refine ⟨_, _, fun _ => hrun, ⟨by rw [List.length_append, hl, hn, Nat.add_mul], .inr ⟨b, off, cap, _, rfl, Blk.setCells news _ hb, hr, e2, by rw [setL_size]; exact e3, fun j u hj => ?_⟩⟩, ?_, fun k hk => .inl hk⟩
      · rw [setL_get _ _ _ (by omega)]
        by_cases hj2 : j < xs.length
        · rw [if_neg (by omega)]
          rw [List.getElem?_append_left hj2] at hj
          exact e4 j u hj
        · rw [List.getElem?_append_right (by omega)] at hj
          have := (List.getElem?_eq_some_iff.1 hj).1
          rw [if_pos (by omega), show off + j - (off + n * size) = j - xs.length by omega]
          exact hj
      · have hk := setCells_keeps b news (off + n * size) hb hT (Keeps.refl (fun x => x = b) w)
        exact ⟨hk.os, hk.tape, hk.output, hk.size, fun k hk1 hk2 => hk.block k hk1 (fun e => hk2 (by rw [e]; rfl)), hk.rows⟩
    · obtain ⟨v', w', hrun, r1, r2⟩ := run_append_arg_grows (P := P) w t t T i z size bytes h1 h2 h3 h4 h5 h6 h7 ⟨b, off, none⟩ n cap xs hl (fun j u hj => by rw [Addr.add_lit]; exact (hb.cell _).trans (e4 j u hj)) ad m c news hn hc (by omega) b1 b2
      exact ⟨v', w', fun _ => hrun, hown v' w' r1 r2⟩
/-- the same, as a step of a region -/
theorem step_append_off {P : Program} {ops : Array Oper} {o : Oper} {a : Act} {w : World} {K : Act → World → Prop} {Q : Exit → Act → World → Prop} {E : Prop}
    (hg : o.guard = none) (s x : Operand) (t : TypeId) (hop : o.op = Op.call { callee := Callee.builtin Builtin.append, args := #[s, x], argTypes := #[t, t] })
    (v v' : Value) (w' : World) (ad : Addr) (m c : Nat) (hs : a.eval s = v) (hx : a.eval x = .slice (some ad) m c)
    (hrun : ∀ ty, (Builtin.append_ #[t, t] ty #[v, .slice (some ad) m c]).run P w = .ok v' w')
    (hK : K (a.put o.dst v') w') :
    if Region.wanted o (yielded ops a.tmps) = true then Oper.wp P o a w K Q else E := by
  have hw : Region.wanted o (yielded ops a.tmps) = true := by simp [Region.wanted, hg]
  rw [if_pos hw]
  have hrun := hrun o.type
  unfold Oper.wp
  simp [execOp, hop, resolve, invoke, builtin, hs, hx, hrun, Result.andThen]
  exact hK
/-- what all orders of a region come to -/
theorem wp_cut2 {α β : Type} {P : Program} {c : Code} {Q : Exit → Act → World → Prop} {a : Act} {w : World} (A : α → β → Act) (F : α → β → World → Prop)
    (h1 : c.wp P (NoPanic fun e a w' => e = .normal ∧ ∃ x y, a = A x y ∧ F x y w') a w) (h2 : ∀ x y w', F x y w' → Q .normal (A x y) w') : c.wp P Q a w :=
  Code.wp_mono (fun e a w h => by
    cases e with
    | panic c => exact (h : False).elim
    | _ =>
      obtain ⟨h0, x, y, rfl, h3⟩ := (h : _ ∧ ∃ x y, _ ∧ _)
      cases h0 <;> exact h2 x y w h3) h1
theorem wp_cut0 {P : Program} {c : Code} {Q : Exit → Act → World → Prop} {a : Act} {w : World} (A : Act) (W : World)
    (h1 : c.wp P (NoPanic fun e a w' => e = .normal ∧ a = A ∧ w' = W) a w) (h2 : Q .normal A W) : c.wp P Q a w :=
  Code.wp_mono (fun e a w h => by
    cases e with
    | panic c => exact (h : False).elim
    | _ =>
      obtain ⟨h0, rfl, rfl⟩ := (h : _ ∧ _ ∧ _)
      cases h0 <;> exact h2) h1
end Go.Proofs.Ytcpkpljeimbdiaa.W
