/-
  A map keyed by whatever reads as a key (structs too), as a function on the keys' names: over any program.
-/
import Derived.Test.YtpbadnmfgffdlaaDoorMapF
import Derived.DeepKeys4
namespace Go.Proofs.YtpbadnmfgffdlaaDoor.Aid
open Go.RowKit Go.Maps
set_option linter.unnecessarySimpa false
set_option linter.unusedSimpArgs false
set_option linter.unusedVariables false

section
variable {P : Program} {k t e : TypeId} {α : Type} {κ : α → Value} {ok : α → Prop} {w w' : World} {b c : Nat} {f : α → Option Value}
/-- block b is a map of c entries: at the key named x it holds 'f x' -/
def MapG (P : Program) (k : TypeId) (κ : α → Value) (ok : α → Prop) (w : World) (b : Nat) (f : α → Option Value) (c : Nat) : Prop :=
  ∃ D : DataW Value, w.ownsMap P k rid b c D ∧ size D = c ∧ ∀ x l, ok x → keyOf P k (κ x) = some l → has D l = (f x).isSome ∧ ∀ z, D.atKey l (.held z) = .held ((f x).getD z)
theorem MapG.lt (h : MapG P k κ ok w b f c) : b < w.heap.size := by obtain ⟨D, h, _⟩ := h; exact h.lt
theorem MapG.kept (h : MapG P k κ ok w b f c) (hb : w'.heap[b]? = w.heap[b]?) : MapG P k κ ok w' b f c := by
  obtain ⟨D, ⟨es, clock, h1, h2, h3, h4⟩, r⟩ := h
  exact ⟨D, ⟨es, clock, hb.trans h1, h2, h3, h4⟩, r⟩
theorem MapG.made (w : World) : MapG P k κ ok (w.alloc (.map #[] 0)) w.heap.size (fun _ => none) 0 :=
  ⟨.map [], World.ownsMap_made w P k rid, rfl, fun _ _ _ _ => ⟨rfl, fun z => rfl⟩⟩
/-- 'v, ok := m[a]' -/
theorem MapG.look (K : Keyed P k) (ht : P.underlying t = some (.map k e)) (h : MapG P k κ ok w b f c) {z : Value} (hz : (zeroValue e).run P w = .ok z w) {x : α} (hx : ok x) (hk : ∃ l, keyOf P k (κ x) = some l) :
    (Instr.lookup t (.map (some b)) (κ x) true).run P w = .ok (.tuple #[(f x).getD z, .bool (f x).isSome]) w := by
  obtain ⟨D, ho, _, hf⟩ := h
  obtain ⟨l, hl⟩ := hk
  obtain ⟨v, ps, hrun, hv⟩ := ho.look_ok K ht hz (zd := .held z) (zp := []) rfl hl
  rw [(hf x l hx hl).1] at hrun
  rw [(hf x l hx hl).2 z] at hv
  simp [rid] at hv
  rw [hrun, hv.1]
open Classical in
/-- a function with one place turned -/
noncomputable def updG (f : α → Option Value) (a : α) (v : Option Value) : α → Option Value := fun x => if x = a then v else f x
/-- 'm[a] = v' -/
theorem MapG.store (K : Keyed P k) (ht : P.underlying t = some (.map k e)) (h : MapG P k κ ok w b f c) (hc : c < maxLen) {a : α} (ha : ok a) (hk : ∃ l, keyOf P k (κ a) = some l) (hinj : ∀ x, κ x = κ a → x = a) (v : Value) :
    ∃ w', (Instr.mapUpdate t (.map (some b)) (κ a) v).run P w = .ok () w' ∧ MapG P k κ ok w' b (updG f a (some v)) (if (f a).isSome then c else c + 1) ∧ w.mapTurned w' b := by
  obtain ⟨D, ho, hs, hf⟩ := h
  obtain ⟨l, hl⟩ := hk
  have hm := ho.isMap
  have htd := ho.tidy K
  obtain ⟨w', hrun, ho', htn⟩ := ho.store K ht hc hl (d := .held v) (ps := []) (val := v) rfl
  have hkl := K.key hl
  refine ⟨w', hrun, ⟨D.put l (.held v), ?_, ?_, fun x lx hx hlx => ?_⟩, htn⟩
  · have := own_tight ho'
    rw [size_put htd, hs, (hf a l ha hl).1] at this
    exact this
  · rw [size_put htd, hs, (hf a l ha hl).1]
  · unfold updG
    by_cases e1 : x = a
    · subst e1
      rw [hl] at hlx
      obtain rfl := Option.some.inj hlx
      rw [if_pos rfl]
      exact ⟨has_put_same hm hkl _, fun z => atKey_put_same hm hkl _ _⟩
    · rw [if_neg e1]
      have hne : lx ≠ l := fun e2 => e1 (hinj x (K.inj (e2 ▸ hlx) hl))
      exact ⟨(has_put_other hne _).trans (hf x lx hx hlx).1, fun z => (atKey_put_other hne _ _).trans ((hf x lx hx hlx).2 z)⟩
/-- 'len(m)' -/
theorem MapG.len (ht : P.underlying t = some (.map k e)) (h : MapG P k κ ok w b f c) (ty : TypeId) : (Builtin.len_ #[t] ty #[.map (some b)]).run P w = .ok (.int .i64 c) w := by
  obtain ⟨D, ho, hs, hf⟩ := h
  rw [ho.len ht ty, hs]
end
end Go.Proofs.YtpbadnmfgffdlaaDoor.Aid
