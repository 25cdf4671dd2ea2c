/-
  WdMapE.
-/
import Derived.Test.YtkibkbbjpgomlaaDoorWqA
import Derived.WideKeyEntry
namespace Go.Proofs.YtkibkbbjpgomlaaDoor.Aid
open Go.RowKit Go.Maps
open Go.ChangeShapes Go.WideShapes Go.ChangeMaps
set_option linter.unnecessarySimpa false
set_option linter.unusedSimpArgs false
set_option linter.unusedVariables false

section
variable {P : Program} {k t e : TypeId} {α : Type} {κ : α → Value} {ok : α → Prop} {w w' : World} {b c : Nat} {f : α → Option Value}
/-- 'm[a]' -/
theorem MapG.get (K : Keyed P k) (ht : P.underlying t = some (.map k e)) (h : MapG P k κ ok w b f c) {z : Value} (hz : (zeroValue e).run P w = .ok z w) {x : α} (hx : ok x) (hk : ∃ l, keyOf P k (κ x) = some l) :
    (Instr.lookup t (.map (some b)) (κ x) false).run P w = .ok ((f x).getD z) w := by
  obtain ⟨D, ho, _, hf⟩ := h
  obtain ⟨l, hl⟩ := hk
  obtain ⟨v, ps, hrun, hv⟩ := ho.lookup K ht hz (zd := .held z) (zp := []) rfl hl
  rw [(hf x l hx hl).2 z] at hv
  simp [rid] at hv
  rw [hrun, hv.1]
/-- the entry is there, and waits -/
theorem MapG.entry (KL : WideMaps.KeyLaw P k) (ht : P.underlying t = some (.map k e)) (h : MapG P k κ ok w b f c) (hc : c < maxLen) {z : Value} (hz : ∀ u : World, (zeroValue e).run P u = .ok z u) {x : α} (hx : ok x) (hk : ∃ l, keyOf P k (κ x) = some l) (hinj : ∀ y, κ y = κ x → y = x) :
    ∃ (st : Nat) (o : Obj), (Instr.mapEntry t (.map (some b)) (κ x)).run P w = .ok (.tuple #[(f x).getD z, .int .i64 st]) (setBlock w b o) ∧
      ∀ (w2 : World) (val : Value), w2.heap[b]? = some o → ∃ w3, (Instr.entryStore t (.map (some b)) (.int .i64 st) val).run P w2 = .ok () w3 ∧ MapG P k κ ok w3 b (updG f x (some val)) (if (f x).isSome then c else c + 1) ∧ w2.mapTurned w3 b := by
  have K := Keyed.of_law KL
  have hget := MapG.get K ht h (hz w) hx hk
  have hst := fun v => MapG.store K ht h hc hx hk hinj v
  obtain ⟨D, ⟨es, clock, hb, F, hsz, hD⟩, hs, hf⟩ := h
  obtain ⟨l, hl⟩ := hk
  obtain ⟨v0, st, es1, clock1, he, _, hnext⟩ := Go.WideElems.entry_then_store KL ht hz hb F hl
  have hv0 : v0 = (f x).getD z := by
    rcases K.find w hl es.toList (Go.WideElems.Fit.keys F) with ⟨h1, h2⟩ | ⟨j, e0, h1, h2, h3⟩
    · simp [Instr.lookup, run_underlying ht, MapKept.run_getObj_map hb, K.check w _ hl, h1, hz, Result.andThen] at hget
      simp [Instr.mapEntry, run_underlying ht, MapKept.run_getObj_map hb, K.check w _ hl, h1, hz, MapKept.run_setObj_map _ hb, Result.andThen] at he
      exact he.1.1.symm.trans hget
    · have hj : es[j]? = some e0 := by simpa using h2
      simp [Instr.lookup, run_underlying ht, MapKept.run_getObj_map hb, K.check w _ hl, h1, Result.andThen] at hget
      simp [Instr.mapEntry, run_underlying ht, MapKept.run_getObj_map hb, K.check w _ hl, h1, hj, h3, K.stays w hl, MapKept.run_setObj_map _ hb, Result.andThen] at he
      exact he.1.1.symm.trans hget
  subst hv0
  refine ⟨st, .map es1 clock1, he, fun w2 val hw2 => ?_⟩
  obtain ⟨es', clock', hrun, hup⟩ := hnext w2 val hw2
  obtain ⟨w4, h4, h5, h6⟩ := hst val
  rw [hup] at h4
  cases h4
  refine ⟨_, hrun, h5.kept ?_, ⟨es1, clock1, es', clock', hw2, rfl⟩⟩
  rw [heap_setBlock_same hw2, heap_setBlock_same hb]
end
end Go.Proofs.YtkibkbbjpgomlaaDoor.Aid
