/-
  A map keyed by an integer kind, as a function: over any program.
-/
import Derived.Test.YtcpkpljeimbdiaaGreatAidB
import Derived.Maps.OwnSet
import Derived.Maps.Views
namespace Go.Proofs.YtcpkpljeimbdiaaGreat.Aid
open Go.RowKit Go.Maps
set_option linter.unnecessarySimpa false
set_option linter.unusedSimpArgs false
set_option linter.unusedVariables false

/-- every value reads as itself -/
def rid (v : Value) : Option (DataW Value × List MemPlace) := some (.held v, [])
/-- block b is a map of c entries: at key a it holds 'f a' -/
def MapF (P : Program) (k : TypeId) (q : IntKind) (w : World) (b : Nat) (f : Int → Option Value) (c : Nat) : Prop :=
  ∃ D : DataW Value, w.ownsMap P k rid b c D ∧ size D = c ∧ ∀ a, (Lit.int q a).wf = true → has D (.int q a) = (f a).isSome ∧ ∀ z, D.atKey (.int q a) (.held z) = .held ((f a).getD z)
section
variable {P : Program} {k t e : TypeId} {q : IntKind} {w w' : World} {b c : Nat} {f : Int → Option Value}
theorem MapF.lt (h : MapF P k q w b f c) : b < w.heap.size := by obtain ⟨D, h, _⟩ := h; exact h.lt
theorem MapF.kept (h : MapF P k q w b f c) (hb : w'.heap[b]? = w.heap[b]?) : MapF P k q w' b f c := by
  obtain ⟨D, ⟨es, clock, h1, h2, h3, h4⟩, r⟩ := h
  exact ⟨D, ⟨es, clock, hb.trans h1, h2, h3, h4⟩, r⟩
theorem key_int {a a' : Int} (h : a' ≠ a) : (Lit.int q a') ≠ .int q a := by intro e; injection e with _ e2; exact h e2
theorem keyLit_int (a : Int) : WideAt.IsKeyLit (.int q a) := by simp [WideAt.IsKeyLit]
theorem MapF.made (hk : P.underlying k = some (.int q)) (w : World) : MapF P k q (w.alloc (.map #[] 0)) w.heap.size (fun _ => none) 0 := by
  refine ⟨.map [], World.ownsMap_made w P k rid, rfl, fun a _ => ⟨rfl, fun z => rfl⟩⟩
theorem own_tight {D : DataW Value} {n : Nat} (h : w.ownsMap P k rid b n D) : w.ownsMap P k rid b (size D) D := by
  obtain ⟨es, clock, h1, h2, h3, h4⟩ := h
  refine ⟨es, clock, h1, h2, ?_, h4⟩
  rw [h4, size_eq, length_sorted]; simp
/-- 'v, ok := m[a]' -/
theorem MapF.look (hk : P.underlying k = some (.int q)) (ht : P.underlying t = some (.map k e)) (h : MapF P k q w b f c) {z : Value} (hz : (zeroValue e).run P w = .ok z w) {a : Int} (ha : (Lit.int q a).wf = true) :
    (Instr.lookup t (.map (some b)) (.int q a) true).run P w = .ok (.tuple #[(f a).getD z, .bool (f a).isSome]) w := by
  obtain ⟨D, ho, _, hf⟩ := h
  obtain ⟨v, ps, hrun, hv⟩ := ho.look_ok (int_keyed hk) ht hz (zd := .held z) (zp := []) rfl (keyOf_int_mk hk ha)
  rw [(hf a ha).1] at hrun
  rw [(hf a ha).2 z] at hv
  simp [rid] at hv
  rw [hrun, hv.1]
/-- 'm[a]' -/
theorem MapF.get (hk : P.underlying k = some (.int q)) (ht : P.underlying t = some (.map k e)) (h : MapF P k q w b f c) {z : Value} (hz : (zeroValue e).run P w = .ok z w) {a : Int} (ha : (Lit.int q a).wf = true) :
    (Instr.lookup t (.map (some b)) (.int q a) false).run P w = .ok ((f a).getD z) w := by
  obtain ⟨D, ho, _, hf⟩ := h
  obtain ⟨v, ps, hrun, hv⟩ := ho.lookup (int_keyed hk) ht hz (zd := .held z) (zp := []) rfl (keyOf_int_mk hk ha)
  rw [(hf a ha).2 z] at hv
  simp [rid] at hv
  rw [hrun, hv.1]
/-- a function with one place turned -/
def upd (f : Int → Option Value) (a : Int) (v : Option Value) : Int → Option Value := fun x => if x = a then v else f x
/-- 'm[a] = v' -/
theorem MapF.store (hk : P.underlying k = some (.int q)) (ht : P.underlying t = some (.map k e)) (h : MapF P k q w b f c) (hc : c < maxLen) {a : Int} (ha : (Lit.int q a).wf = true) (v : Value) :
    ∃ w', (Instr.mapUpdate t (.map (some b)) (.int q a) v).run P w = .ok () w' ∧ MapF P k q w' b (upd f a (some v)) (if (f a).isSome then c else c + 1) ∧ w.mapTurned w' b := by
  obtain ⟨D, ho, hs, hf⟩ := h
  have hm := ho.isMap
  have htd := ho.tidy (int_keyed hk)
  obtain ⟨w', hrun, ho', htn⟩ := ho.store (int_keyed hk) ht hc (keyOf_int_mk hk ha) (d := .held v) (ps := []) (val := v) rfl
  refine ⟨w', hrun, ⟨D.put (.int q a) (.held v), ?_, ?_, fun x hx => ?_⟩, htn⟩
  · have := own_tight ho'
    rw [size_put htd, hs, (hf a ha).1] at this
    exact this
  · rw [size_put htd, hs, (hf a ha).1]
  · unfold upd
    by_cases e1 : x = a
    · subst e1
      rw [if_pos rfl]
      exact ⟨has_put_same hm (keyLit_int x) _, fun z => atKey_put_same hm (keyLit_int x) _ _⟩
    · rw [if_neg e1]
      exact ⟨(has_put_other (key_int e1) _).trans (hf x hx).1, fun z => (atKey_put_other (key_int e1) _ _).trans ((hf x hx).2 z)⟩
/-- 'delete(m, a)' -/
theorem MapF.drop (hk : P.underlying k = some (.int q)) (ht : P.underlying t = some (.map k e)) (h : MapF P k q w b f c) {a : Int} (ha : (Lit.int q a).wf = true) (ty : TypeId) :
    ∃ w', (Builtin.delete_ #[t, k] ty #[.map (some b), .int q a]).run P w = .ok (.tuple #[]) w' ∧ MapF P k q w' b (upd f a none) (if (f a).isSome then c - 1 else c) ∧ w.mapTurned w' b := by
  obtain ⟨D, ho, hs, hf⟩ := h
  have htd := ho.tidy (int_keyed hk)
  obtain ⟨w', hrun, ho', htn⟩ := ho.drop (int_keyed hk) ht (keyOf_int_mk hk ha) ty
  have hsd := size_del (k := .int q a) htd
  rw [hs, (hf a ha).1] at hsd
  have hsz : size (D.del (.int q a)) = if (f a).isSome then c - 1 else c := by split at hsd <;> simp_all <;> omega
  refine ⟨w', hrun, ⟨D.del (.int q a), ?_, hsz, fun x hx => ?_⟩, htn⟩
  · have := own_tight ho'
    rw [hsz] at this; exact this
  · unfold upd
    by_cases e1 : x = a
    · subst e1
      rw [if_pos rfl]
      exact ⟨has_del_same, fun z => atKey_del_same _⟩
    · rw [if_neg e1]
      exact ⟨(has_del_other (key_int e1)).trans (hf x hx).1, fun z => (atKey_del_other (key_int e1) _).trans ((hf x hx).2 z)⟩
/-- 'len(m)' -/
theorem MapF.len (ht : P.underlying t = some (.map k e)) (h : MapF P k q w b f c) (ty : TypeId) : (Builtin.len_ #[t] ty #[.map (some b)]).run P w = .ok (.int .i64 c) w := by
  obtain ⟨D, ho, hs, hf⟩ := h
  rw [ho.len ht ty, hs]
theorem turned_block (h : w.mapTurned w' b) {g : Nat} (hg : g ≠ b) : w'.heap[g]? = w.heap[g]? := by
  obtain ⟨es, clock, es', clock', hb, rfl⟩ := h
  exact Array.getElem?_setIfInBounds_ne (Ne.symm hg)
theorem turned_size (h : w.mapTurned w' b) : w'.heap.size = w.heap.size := by
  obtain ⟨es, clock, es', clock', hb, rfl⟩ := h
  simp [ChangeMaps.setBlock]
end
end Go.Proofs.YtcpkpljeimbdiaaGreat.Aid
