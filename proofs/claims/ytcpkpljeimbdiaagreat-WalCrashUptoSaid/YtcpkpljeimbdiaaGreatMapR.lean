/-
  A store at a key that is there, in a round over the map: over any program.
-/
import Derived.Test.YtcpkpljeimbdiaaGreatMapF
import Derived.Maps.RangeWalk
namespace Go.Proofs.YtcpkpljeimbdiaaGreat.Aid
open Go.RowKit Go.Maps Go.ChangeMaps Go.MapKept Go.WideShapes
open Go.WideElems (Fit rd rg pl rd_key rd_val rg_of other_key)
set_option linter.unnecessarySimpa false
set_option linter.unusedSimpArgs false
set_option linter.unusedVariables false

section
variable {P : Program} {k t e : TypeId} {w w' : World} {b r n cnt : Nat} {D : DataW Value} {left : Lit → Bool}
theorem set_same {α : Type} {l : List α} {j : Nat} {x : α} (h : l[j]? = some x) : l.set j x = l := by
  apply List.ext_getElem?
  intro i
  by_cases e : j = i
  · subst e
    rw [List.getElem?_set_self (List.getElem?_eq_some_iff.1 h).1, h]
  · rw [List.getElem?_set_ne e]
/-- a block reads as one map -/
theorem own_one {n n' : Nat} {D D' : DataW Value} (h : w.ownsMap P k rid b n D) (h' : w.ownsMap P k rid b n' D') : D = D' := by
  obtain ⟨es, c, h1, _, _, rfl⟩ := h
  obtain ⟨es', c', h1', _, _, rfl⟩ := h'
  rw [h1] at h1'
  cases h1'
  rfl
theorem ranges_iter {cs : Array Value} {ty : TypeId} {fr : Nat × Nat} (h : w.ranges P k rid b r n D left cnt) (e : w.heap[r]? = some (.cells cs ty fr)) : False := by
  obtain ⟨es, clock, since, seen, c0, _, _, _, _, hr, _⟩ := h
  rw [hr] at e
  cases e
theorem left_len (es : Array MapEntry) (seen : Array Nat) : (leftOf es seen).size = ((es.toList.map (·.born)).filter fun x => !seen.contains x).length := by
  unfold leftOf
  rw [← Array.length_toList, Array.toList_filter, List.filter_map, List.length_map]
  rfl
/-- 'm[a] = v' in a round, a a key that is there -/
theorem ranges_turn (h : w.ranges P k rid b r n D left cnt) (K : Keyed P k) (ht : P.underlying t = some (.map k e)) (hn : n < maxLen) {key val : Value} {kl : Lit} (hkey : keyOf P k key = some kl) (hhas : has D kl = true) :
    ∃ w', (Instr.mapUpdate t (.map (some b)) key val).run P w = .ok () w' ∧ w'.ranges P k rid b r n (D.put kl (.held val)) left cnt ∧ w.mapTurned w' b := by
  have hne := h.ne
  obtain ⟨es, clock, since, seen, c0, hb, F, hs, rfl, hr, hold, hc, hl1, hl2, hsc, hsk⟩ := h
  rcases K.find w hkey es.toList F.keys with ⟨h1, h2⟩ | ⟨j, e0, h1, h2, h3⟩
  · exfalso
    rw [has_eq] at hhas
    obtain ⟨p, hp, hpk⟩ := List.any_eq_true.1 hhas
    obtain ⟨x, hx, rfl⟩ := List.mem_map.1 (mem_sorted.1 hp)
    obtain ⟨y, hy⟩ := F.reads x hx
    have m1 := rd_key hy
    have m2 := WideAt.sameKey_eq hpk
    rw [rg_of hy] at m2
    rw [m2] at m1
    exact h2 x hx (K.inj m1 hkey)
  · have hj : es[j]? = some e0 := by simpa using h2
    have hrun2 : (Instr.mapUpdate t (.map (some b)) key val).run P w = .ok () (setBlock w b (.map (es.modify j (fun e' => { e' with key := key, val := val })) clock)) := by
      simp [Instr.mapUpdate, run_underlying ht, MapKept.run_getObj_map hb, K.check w false hkey, h1, hj, h3, K.stays w hkey, MapKept.run_setObj_map _ hb, Result.andThen, setBlock]
    obtain ⟨es', clock', hrun, F', hput, _, _, hwho⟩ := fit_store (R' := rid) K ht hb F (Nat.lt_of_le_of_lt hs hn) (fun _ _ _ _ hz => hz) hkey (show rid val = some (.held val, []) from rfl)
    have heq : some (Obj.map es' clock') = some (Obj.map (es.modify j (fun e' => { e' with key := key, val := val })) clock) := by
      have := hrun.symm.trans hrun2
      injection this with _ hw
      have e1 := heap_setBlock_same hb (.map es' clock')
      have e2 := heap_setBlock_same hb (.map (es.modify j (fun e' => { e' with key := key, val := val })) clock)
      rw [← e1, ← e2, hw]
    obtain ⟨hes, hcl⟩ : es' = es.modify j (fun e' => { e' with key := key, val := val }) ∧ clock' = clock := by simpa using heq
    subst hcl
    have hlist : es'.toList = es.toList.set j { e0 with key := key, val := val } := by rw [hes, Array.toList_modify, modify_eq_set _ _ _ _ h2]
    have hborn : es'.toList.map (·.born) = es.toList.map (·.born) := by
      rw [hlist, List.map_set]
      have : (es.toList.map (·.born))[j]? = some e0.born := by rw [List.getElem?_map, h2]; rfl
      exact set_same this
    have hsz : es'.size = es.size := by rw [hes]; simp
    have he0 : e0 ∈ es.toList := List.mem_of_getElem? h2
    have hnew : rd P k rid { e0 with key := key, val := val } = some (kl, .held val) := Go.WideElems.rd_mk (born := e0.born) hkey (show rid val = some (.held val, []) from rfl)
    have hrg0 : (rg P k rid e0).1 = kl := by
      obtain ⟨y, hy⟩ := F.reads e0 he0
      have m1 := rd_key hy
      rw [h3, hkey] at m1
      rw [rg_of hy, ← Option.some.inj m1]
    have mem' : ∀ x, x ∈ es'.toList → x = { e0 with key := key, val := val } ∨ x ∈ es.toList := by
      intro x hx
      rw [hlist] at hx
      rcases List.mem_or_eq_of_mem_set hx with h | h
      · exact .inr h
      · exact .inl h
    refine ⟨_, hrun, ⟨es', clock', since, seen, c0, heap_setBlock_same hb _, F', by rw [hsz]; exact hs, by rw [DataW.put_eq, hput], (heap_setBlock_other hb _ hne).trans hr, fun x hx => ?_, ?_, fun x hx => ?_, fun kl' hk' => ?_, hsc, hsk⟩, ⟨es, clock', es', clock', hb, rfl⟩⟩
    · rcases mem' x hx with rfl | hx
      · exact hold e0 he0
      · exact hold x hx
    · rw [left_len, hborn, ← left_len]; exact hc
    · rcases mem' x hx with rfl | hx
      · rw [rg_of hnew]
        show left kl = _
        rw [← hrg0]; exact hl1 e0 he0
      · exact hl1 x hx
    · obtain ⟨x, hx, hxk⟩ := hl2 kl' hk'
      obtain ⟨i, hi⟩ := List.getElem?_of_mem hx
      by_cases hij : i = j
      · subst hij
        rw [h2] at hi
        cases hi
        refine ⟨{ e0 with key := key, val := val }, ?_, ?_⟩
        · rw [hlist]
          exact List.mem_iff_getElem?.2 ⟨i, by rw [List.getElem?_set_self]; exact (List.getElem?_eq_some_iff.1 h2).1⟩
        · rw [rg_of hnew, ← hxk, hrg0]
      · refine ⟨x, ?_, hxk⟩
        rw [hlist]
        exact List.mem_iff_getElem?.2 ⟨i, by rw [List.getElem?_set_ne (Ne.symm hij)]; exact hi⟩
end
end Go.Proofs.YtcpkpljeimbdiaaGreat.Aid
