/-
  Rows that lie anywhere in a block, and are appended to in place.
-/
import Derived.Test.YtcpkpljeimbdiaaDskGood
import Derived.ArgAppend
import Derived.Laws.IdiomCopy
namespace Go.Proofs.Ytcpkpljeimbdiaa.W
open Go.RowKit
open Aid K
set_option linter.unusedSimpArgs false
set_option linter.unusedVariables false

/-- cells from one on are written -/
def setL (cs : Array Value) : Nat → List Value → Array Value
  | _, [] => cs
  | o, v :: r => setL (cs.setIfInBounds o v) (o + 1) r
theorem setL_size : ∀ (vs : List Value) (o : Nat) (cs : Array Value), (setL cs o vs).size = cs.size
  | [], _, _ => rfl
  | v :: r, o, cs => (setL_size r (o + 1) _).trans (by simp)
theorem setL_toList : ∀ (vs : List Value) (o : Nat) (cs : Array Value), o + vs.length ≤ cs.size → (setL cs o vs).toList = cs.toList.take o ++ vs ++ cs.toList.drop (o + vs.length)
  | [], o, cs, h => by simp [setL]
  | v :: r, o, cs, h => by
    rw [List.length_cons] at h
    rw [setL, setL_toList r (o + 1) _ (by simp; omega)]
    have e : (cs.setIfInBounds o v).toList = cs.toList.set o v := by simp
    have ho : o < cs.toList.length := by simp; omega
    rw [e, List.length_cons, List.drop_set_of_lt (by omega), List.take_succ_eq_append_getElem (by simp; omega)]
    have e2 : List.take o (cs.toList.set o v) = List.take o cs.toList := by
      apply List.ext_getElem?
      intro j
      by_cases hj : j < o
      · rw [List.getElem?_take_of_lt hj, List.getElem?_take_of_lt hj, List.getElem?_set_ne (by omega)]
      · rw [List.getElem?_take_eq_none (by omega), List.getElem?_take_eq_none (by omega)]
    simp [show o + 1 + r.length = o + (r.length + 1) by omega, e2]
theorem Blk.setCells {g : Nat} {t : TypeId} : ∀ (vs : List Value) (o : Nat) {w : World} {cs : Array Value}, Blk w g t cs → Blk (w.setCells g o vs) g t (setL cs o vs)
  | [], _, _, _, h => h
  | v :: r, o, _, _, h => Blk.setCells r (o + 1) (h.set o v)
theorem setL_get : ∀ (vs : List Value) (o : Nat) (cs : Array Value), o + vs.length ≤ cs.size → ∀ j, (setL cs o vs)[j]? = if o ≤ j ∧ j < o + vs.length then vs[j - o]? else cs[j]?
  | [], o, cs, h, j => by rw [if_neg (by simp only [List.length_nil]; omega)]; rfl
  | v :: r, o, cs, h, j => by
    rw [List.length_cons] at h
    rw [setL, setL_get r (o + 1) _ (by simp; omega)]
    by_cases h1 : o + 1 ≤ j ∧ j < o + 1 + r.length
    · rw [if_pos h1, if_pos (by rw [List.length_cons]; omega), show j - o = (j - (o + 1)) + 1 by omega, List.getElem?_cons_succ]
    · rw [if_neg h1]
      by_cases h2 : j = o
      · subst h2
        rw [if_pos (by rw [List.length_cons]; omega), Nat.sub_self]
        simp only [List.getElem?_cons_zero, Array.setIfInBounds]
        simp [show j < cs.size by omega]
      · rw [if_neg (by rw [List.length_cons]; omega)]
        simp [Array.getElem?_setIfInBounds, show o ≠ j by omega]
theorem setCells_keeps (g : Nat) : ∀ (vs : List Value) (o : Nat) {w0 w : World} {T : TypeId} {cs : Array Value}, Blk w g T cs → T ≠ 9 → Keeps (fun x => x = g) w0 w → Keeps (fun x => x = g) w0 (w.setCells g o vs)
  | [], _, _, _, _, _, _, _, h => h
  | v :: r, o, w0, w, T, cs, hB, hT, h => setCells_keeps g r (o + 1) (hB.set o v) hT (set_keeps h rfl (StrRow.no_blk hB hT))
theorem setCells_size (g : Nat) : ∀ (vs : List Value) (o : Nat) (w : World), (w.setCells g o vs).heap.size = w.heap.size
  | [], _, _ => rfl
  | v :: r, o, w => (setCells_size g r (o + 1) _).trans (by simp)
/-- a row, wherever in a block it begins -/
def OffRow (w : World) (T : TypeId) (size : Nat) (v : Value) (n : Nat) (xs : List Value) : Prop :=
  xs.length = n * size ∧ ((v = .slice none 0 0 ∧ n = 0) ∨ ∃ b off cap cur, v = .slice (some ⟨b, off, none⟩) n cap ∧ Blk w b T cur ∧ n ≤ cap ∧ cap ≤ maxLen ∧ off + cap * size ≤ cur.size ∧ ∀ j u, xs[j]? = some u → cur[off + j]? = some u)
theorem OffRow.nil (w : World) (T : TypeId) (size : Nat) : OffRow w T size (.slice none 0 0) 0 [] := ⟨by simp, .inl ⟨rfl, rfl⟩⟩
theorem OffRow.of_own {w : World} {base : Nat} {T : TypeId} {size : Nat} {v : Value} {n : Nat} {xs : List Value} (h : w.ownsRow base T size v n xs) : OffRow w T size v n xs := by
  obtain ⟨h1, h2 | ⟨g, cap, cur, rfl, hb, hg, h2, h3, h4, h5⟩⟩ := h
  · exact ⟨h1, .inl h2⟩
  · refine ⟨h1, .inr ⟨g, 0, cap, cur, rfl, hg, h2, h3, by omega, fun j u hj => ?_⟩⟩
    rw [← h5, List.getElem?_take] at hj
    split at hj
    · rw [Nat.zero_add, ← Array.getElem?_toList]; exact hj
    · cases hj
theorem OffRow.keep {O : Nat → Prop} {w w' : World} {T : TypeId} {size : Nat} {v : Value} {n : Nat} {xs : List Value} (h : OffRow w T size v n xs) (hK : Keeps O w w') (hO : ∀ k, v.ownBlock = some k → ¬ O k) : OffRow w' T size v n xs := by
  obtain ⟨h1, h2 | ⟨b, off, cap, cur, rfl, hb, h3⟩⟩ := h
  · exact ⟨h1, .inl h2⟩
  · exact ⟨h1, .inr ⟨b, off, cap, cur, rfl, (hK.block b (Blk.lt hb) (hO b rfl)).trans hb, h3⟩⟩
theorem OffRow.lt {w : World} {T : TypeId} {size : Nat} {v : Value} {n : Nat} {xs : List Value} (h : OffRow w T size v n xs) : ∀ k, v.ownBlock = some k → k < w.heap.size := by
  intro k hk
  obtain ⟨h1, ⟨rfl, _⟩ | ⟨b, off, cap, cur, rfl, hb, h3⟩⟩ := h
  · cases hk
  · cases hk; exact Blk.lt hb
theorem OffRow.slice {w : World} {T : TypeId} {size : Nat} {v : Value} {n : Nat} {xs : List Value} (h : OffRow w T size v n xs) : ∃ a c, v = .slice a n c ∧ n ≤ c ∧ (a = none → c = 0) := by
  obtain ⟨h1, ⟨rfl, rfl⟩ | ⟨b, off, cap, cur, rfl, hb, h2, h3⟩⟩ := h
  · exact ⟨none, 0, rfl, Nat.le_refl _, fun _ => rfl⟩
  · exact ⟨_, cap, rfl, h2, fun e => (nomatch e)⟩
/-- less from the end -/
theorem OffRow.take {w : World} {T : TypeId} {size : Nat} {a : Option Addr} {n c : Nat} {xs : List Value} (h : OffRow w T size (.slice a n c) n xs) {k : Nat} (hk : k ≤ n) : OffRow w T size (.slice a k c) k (xs.take (k * size)) := by
  obtain ⟨h1, ⟨h2, rfl⟩ | ⟨b, off, cap, cur, h2, hb, h3, h4, h5, h6⟩⟩ := h
  · cases h2
    obtain rfl : k = 0 := by omega
    exact ⟨by simp, .inl ⟨rfl, rfl⟩⟩
  · cases h2
    refine ⟨by rw [List.length_take]; have := Nat.mul_le_mul_right size hk; omega, .inr ⟨b, off, c, cur, rfl, hb, by omega, h4, h5, fun j u hj => ?_⟩⟩
    rw [List.getElem?_take] at hj
    split at hj
    · exact h6 j u hj
    · cases hj
/-- less from the front -/
theorem OffRow.drop {w : World} {T : TypeId} {size : Nat} {a : Option Addr} {n c : Nat} {xs : List Value} (h : OffRow w T size (.slice a n c) n xs) {k : Nat} (hk : k ≤ n) : OffRow w T size (.slice (a.map fun x => x.add (k * size)) (n - k) (c - k)) (n - k) (xs.drop (k * size)) := by
  obtain ⟨h1, ⟨h2, rfl⟩ | ⟨b, off, cap, cur, h2, hb, h3, h4, h5, h6⟩⟩ := h
  · cases h2
    obtain rfl : k = 0 := by omega
    exact ⟨by simp [h1], .inl ⟨by simp, rfl⟩⟩
  · cases h2
    have e1 : (⟨b, off, none⟩ : Addr).add (k * size) = ⟨b, off + k * size, none⟩ := by unfold Addr.add; split <;> simp_all
    have e2 : (c - k) * size = c * size - k * size := Nat.sub_mul _ _ _
    have e3 := Nat.mul_le_mul_right size (show k ≤ c by omega)
    have e4 := Nat.mul_le_mul_right size hk
    refine ⟨by rw [List.length_drop, h1, Nat.sub_mul], .inr ⟨b, off + k * size, c - k, cur, by simp [e1], hb, by omega, by omega, by omega, fun j u hj => ?_⟩⟩
    rw [List.getElem?_drop] at hj
    rw [Nat.add_assoc]
    exact h6 _ u hj
/-- append, in place or not -/
theorem wpList_append_off {P : Program} {ops : Array Oper} {rest : List Oper} {o : Oper} {a : Act} {Q : Exit → Act → World → Prop} (w : World)
    (hg : o.guard = none) (s x : Operand) (t : TypeId) (hop : o.op = Op.call { callee := Callee.builtin Builtin.append, args := #[s, x], argTypes := #[t, t] })
    (T : TypeId) (i : TypeInfo) (z : Value) (size bytes : Nat) (h1 : P.underlying t = some (.slice T)) (h2 : P.info? T = some i) (h3 : i.zero = some z) (h4 : i.size = size) (h5 : i.bytes = bytes) (h6 : z.cells.size = size) (h7 : 0 < size) (hT : T ≠ 9)
    (v : Value) (n : Nat) (xs : List Value) (hs : a.eval s = v) (hR : OffRow w T size v n xs)
    (ad : Addr) (m c : Nat) (news : List Value) (hx : a.eval x = .slice (some ad) m c) (hn : news.length = m * size) (hc : ∀ j u, news[j]? = some u → w.cell? (ad.add j) = some u) (h1c : ∀ u ∈ news, u.oneCell' = true)
    (b1 : n + m ≤ maxLen) (b2 : (n + m) * bytes ≤ 140737488355328)
    (h : ∀ v' w', OffRow w' T size v' (n + m) (xs ++ news) → Keeps (fun k => v.ownBlock = some k) w w' → (∀ k, v'.ownBlock = some k → v.ownBlock = some k ∨ w.heap.size ≤ k) → wpList P ops Q rest (a.put o.dst v') w') :
    wpList P ops Q (o :: rest) a w := by
  have hown : ∀ v' (w' : World), w'.ownsRow w.heap.size T size v' (n + m) (xs ++ news) → w.grownBy w' none → wpList P ops Q rest (a.put o.dst v') w' := fun v' w' ho hb =>
    h v' w' (OffRow.of_own ho) (Keeps.of_below (below_of_grown hb (Nat.le_refl _) (fun _ e => (nomatch e)))) (fun k hk => .inr (by
      rcases ho.2 with ⟨e, _⟩ | ⟨g, cap, cur, e, hb2, _⟩
      · rw [e] at hk; cases hk
      · rw [e] at hk; cases hk; exact hb2))
  obtain ⟨hl, ⟨rfl, rfl⟩ | ⟨b, off, cap, cur, rfl, hb, e1, e2, e3, e4⟩⟩ := hR
  · obtain rfl : xs = [] := List.eq_nil_of_length_eq_zero (by omega)
    refine wpList_want (by simp [Region.wanted, hg]) fun K hK => ?_
    refine wp_append_own w s x t hop w.heap.size T i z size bytes h1 h2 h3 h4 h5 h6 h7 (.slice none 0 0) 0 [] hs (World.ownsRow_nil _ _ _ _) ad m c news hx hn hc h1c b1 b2 (Nat.le_refl _) ?_
    intro v' w' ho hb _
    exact hK _ _ (hown v' w' ho hb)
  · refine wpList_append_arg w hg s x t hop T i z size bytes h1 h2 h3 h4 h5 h6 h7 b off n cap xs hs hl (fun j u hj => (hb.cell _).trans (e4 j u hj)) ad m c news hx hn hc h1c (fun hr j hj => ?_) b1 b2 (fun hr => ?_) (fun _ v' w' ho hb => hown v' w' ho hb)
    · have e5 := Nat.mul_le_mul_right size hr
      rw [Nat.add_mul] at e5
      refine ⟨?_, hb.free _⟩
      rw [hb.cell, Array.getElem?_eq_getElem (by omega)]
      rfl
    · have e5 := Nat.mul_le_mul_right size hr
      rw [Nat.add_mul] at e5
      refine h _ _ ⟨by rw [List.length_append, hl, hn, Nat.add_mul], .inr ⟨b, off, cap, _, rfl, Blk.setCells news _ hb, hr, e2, by rw [setL_size]; exact e3, fun j u hj => ?_⟩⟩ ?_ (fun k hk => .inl hk)
      · rw [setL_get _ _ _ (by omega)]
        by_cases hj2 : j < xs.length
        · rw [if_neg (by omega)]
          rw [List.getElem?_append_left hj2] at hj
          exact e4 j u hj
        · rw [List.getElem?_append_right (by omega)] at hj
          have := (List.getElem?_eq_some_iff.1 hj).1
          rw [if_pos (by omega), show off + j - (off + n * size) = j - xs.length by omega]
          exact hj
      · have hk := setCells_keeps b news (off + n * size) hb hT (Keeps.refl (fun x => x = b) w)
        exact ⟨hk.os, hk.tape, hk.output, hk.size, fun k hk1 hk2 => hk.block k hk1 (fun e => hk2 (by rw [e]; rfl)), hk.rows⟩
end Go.Proofs.Ytcpkpljeimbdiaa.W
