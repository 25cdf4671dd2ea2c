/-
  Two rows that a call pushes to side by side. No function of the program is in sight.
-/
import Derived.Test.YtcpkpljeimbdiaaGreatAidB
import Derived.Maps.AppendAt
namespace Go.Proofs.YtcpkpljeimbdiaaGreat.Aid
open Go.RowKit
set_option linter.unnecessarySimpa false
set_option linter.unusedSimpArgs false
set_option linter.unusedVariables false

/-- two rows of the call's own, apart -/
def Duo (w : World) (base : Nat) (e : TypeId) (u v : Value) (nu nv : Nat) (xs ys : List Value) : Prop :=
  w.ownsRow base e 1 u nu xs ∧ w.ownsRow base e 1 v nv ys ∧ (u.ownBlock = none ∨ u.ownBlock ≠ v.ownBlock)
theorem Duo.nil (w : World) (base : Nat) (e : TypeId) : Duo w base e (.slice none 0 0) (.slice none 0 0) 0 0 [] [] :=
  ⟨World.ownsRow_nil _ _ _ _, World.ownsRow_nil _ _ _ _, .inl rfl⟩
theorem Duo.swap {w : World} {base : Nat} {e : TypeId} {u v : Value} {nu nv : Nat} {xs ys : List Value} (h : Duo w base e u v nu nv xs ys) : Duo w base e v u nv nu ys xs := by
  refine ⟨h.2.1, h.1, ?_⟩
  rcases h.2.2 with h | h
  · cases hv : v.ownBlock with
    | none => exact .inl rfl
    | some k => exact .inr (by rw [h]; simp)
  · exact .inr (Ne.symm h)
theorem Duo.below {w w' : World} {base : Nat} {e : TypeId} {u v : Value} {nu nv : Nat} {xs ys : List Value} (h : Duo w base e u v nu nv xs ys) (hb : Below w.heap.size w w') : Duo w' base e u v nu nv xs ys :=
  ⟨owns_below h.1 hb, owns_below h.2.1 hb, h.2.2⟩

/-- 'append(u, x)', u the first of two rows of the call's own: x has just been laid in a block of one cell. -/
theorem wpList_duo {P : Program} {ops : Array Oper} {rest : List Oper} {o : Oper} {a : Act} {Q : Exit → Act → World → Prop} (w : World)
    (hw : Region.wanted o (yielded ops a.tmps) = true) (s x : Operand) (t : TypeId)
    (ho : o.op = .call { callee := .builtin .append, args := #[s, x], argTypes := #[t, t] })
    (base : Nat) (e : TypeId) (i : TypeInfo) (z : Value) (bytes : Nat) (ht : P.underlying t = some (.slice e)) (hi : P.info? e = some i) (hz : i.zero = some z)
    (hsize : i.size = 1) (hby : i.bytes = bytes) (hzs : z.cells.size = 1)
    (u v : Value) (n nv : Nat) (xs ys : List Value) (hs : a.eval s = u) (hown : Duo w base e u v n nv xs ys) (g : Nat) (y : Value) (hx : a.eval x = .slice (some ⟨g, 0, none⟩) 1 1)
    (hc : w.cell? ⟨g, 0, none⟩ = some y) (h1 : y.oneCell' = true) (h63 : n + 1 ≤ maxLen) (hbytes : (n + 1) * bytes ≤ 140737488355328) (hbase : base ≤ w.heap.size)
    (h : ∀ u' w', Duo w' base e u' v (n + 1) nv (xs ++ [y]) ys → Below base w w' → wpList P ops Q rest (a.put o.dst u') w') : wpList P ops Q (o :: rest) a w := by
  refine wpList_want hw fun K hK => ?_
  obtain ⟨v', w', hr, h2, h3, h4, h5⟩ := run_append_own_at (P := P) w base t o.type e i z 1 bytes ht hi hz hsize hby hzs (by decide) u n xs hown.1 ⟨g, 0, none⟩ 1 1 [y] rfl
    (by
      intro j x' hj
      match j, hj with
      | 0, hj => simp at hj; subst hj; simpa [Addr.add] using hc
      | j + 1, hj => simp at hj)
    (by intro y' hy; simp at hy; subst hy; exact h1) h63 hbytes hbase
  unfold Oper.wp execOp
  simp only [ho, resolve, invoke, builtin, Sem.run_bind, Sem.run_pure, Result.andThen_ok, List.map_toArray, List.map_cons, List.map_nil, hs, hx, hr]
  refine hK _ _ (h v' w' ⟨h2, ?_, ?_⟩ (below_of_grown h3 hbase (owns_base hown.1)))
  · refine hown.2.1.kept h3 ?_
    exact hown.swap.2.2
  · rcases h5 with h5 | h5
    · rw [h5]; exact hown.2.2
    · rw [h5]
      refine .inr fun e' => ?_
      have := hown.2.1.lt _ e'.symm
      omega
end Go.Proofs.YtcpkpljeimbdiaaGreat.Aid
