/-
  Every version was written by a call.
-/
import Derived.Test.YteidmneenfdafaaRefRel
namespace Go.Proofs.Yteidmneenfdafaa.R
open Go.RowKit
open Aid K
set_option linter.unusedSimpArgs false
set_option linter.unusedVariables false

def WroteV (f : Nat → OpR) (i : Nat) (a m : Int) (V : ByteArray) : Prop := ∃ j, j < i ∧ (f j).k = 0 ∧ (f j).a = a ∧ (f j).n = m ∧ V = wholeI (f j).l ∧ (f j).l.length ≤ 64
def Wrote (f : Nat → OpR) (i : Nat) (F : Int → Int → Option Sec) : Prop := ∀ a m L s, F a m = some (L, s) → L ≠ [] ∧ ∀ V ∈ L, WroteV f i a m V
theorem WroteV.mono {f : Nat → OpR} {i : Nat} {a m : Int} {V : ByteArray} (h : WroteV f i a m V) : WroteV f (i + 1) a m V := by
  obtain ⟨j, h1, h2⟩ := h; exact ⟨j, by omega, h2⟩
theorem Wrote.mono {f : Nat → OpR} {i : Nat} {F : Int → Int → Option Sec} (h : Wrote f i F) : Wrote f (i + 1) F := fun a m L s e => ⟨(h a m L s e).1, fun V hV => ((h a m L s e).2 V hV).mono⟩
theorem wrote_put {f : Nat → OpR} {i : Nat} {F : Int → Int → Option Sec} (h : Wrote f (i + 1) F) {a n : Int} {L : List ByteArray} {s : Bool} (hL : L ≠ []) (hV : ∀ V ∈ L, WroteV f (i + 1) a n V) : Wrote f (i + 1) (updF F a n (some (L, s))) := by
  intro b m L' s' e
  unfold updF at e
  by_cases hb : b = a
  · by_cases hm : m = n
    · subst hb hm
      simp at e
      obtain ⟨rfl, rfl⟩ := e
      exact ⟨hL, hV⟩
    · subst hb; simp [hm] at e; exact h _ _ _ _ e
  · simp [hb] at e; exact h _ _ _ _ e
theorem wrote_last {f : Nat → OpR} {i : Nat} {a m : Int} {L : List ByteArray} (hL : L ≠ []) (hV : ∀ V ∈ L, WroteV f i a m V) : WroteV f i a m (L.getLastD ByteArray.empty) := by
  rw [List.getLastD_eq_getLast?, List.getLast?_eq_some_getLast hL]
  exact hV _ (List.getLast_mem hL)
theorem wrote_sync {f : Nat → OpR} {i : Nat} {st : DSt} (h : Wrote f i st.F) (a : Int) : Wrote f i (syncF st a).F := by
  intro b m L s e
  have e' : (if b = a ∧ (fun _ => false) (Lit.int .i64 m) = false ∧ (Lit.int .i64 m).wf = true then (st.F a m).map lastS else st.F b m) = some (L, s) := e
  split at e'
  · rename_i hb
    obtain ⟨⟨L', s'⟩, h1, h2⟩ := Option.map_eq_some_iff.1 e'
    have h3 := h _ _ _ _ h1
    unfold lastS at h2
    simp only [Prod.mk.injEq] at h2
    rw [← h2.1, hb.1]
    exact ⟨by simp, fun V hV => by rw [List.mem_singleton.1 hV]; exact wrote_last h3.1 h3.2⟩
  · exact h _ _ _ _ e'
theorem wrote_do {f : Nat → OpR} {i : Nat} {st : DSt} (h : Wrote f i st.F) : Wrote f (i + 1) (doS st (f i).k (f i).a (f i).n (f i).l).F := by
  have h1 := h.mono
  unfold doS
  split
  · rename_i k0
    split
    · exact h1
    · rename_i hb
      have hlen : (f i).l.length ≤ 64 := by unfold BadW at hb; omega
      have hnew : WroteV f (i + 1) (f i).a (f i).n (wholeI (f i).l) := ⟨i, by omega, k0, rfl, rfl, rfl, hlen⟩
      unfold writeF
      cases hF : st.F (f i).a (f i).n with
      | none =>
        have hFF : ∀ st' : DSt, st'.F = st.F → Wrote f (i + 1) (stepF (putS st' (f i).a (f i).n ([wholeI (f i).l], false))).F := fun st' e => by
          show Wrote f (i + 1) (updF st'.F (f i).a (f i).n (some ([wholeI (f i).l], false)))
          rw [e]
          exact wrote_put h1 (by simp) (fun V hV => by rw [List.mem_singleton.1 hV]; exact hnew)
        exact hFF _ (by split <;> rfl)
      | some sec =>
        obtain ⟨L, s⟩ := sec
        show Wrote f (i + 1) (updF st.F (f i).a (f i).n (some (L ++ [wholeI (f i).l], s)))
        refine wrote_put h1 (by simp) (fun V hV => ?_)
        rcases List.mem_append.1 hV with hV | hV
        · exact ((h _ _ _ _ hF).2 V hV).mono
        · rw [List.mem_singleton.1 hV]; exact hnew
  · have ht : (tickF st).F = st.F := by unfold tickF; split <;> rfl
    split
    · split
      · rw [ht]; exact h1
      · exact wrote_sync h1 _
    · split
      · split
        · rw [ht]; exact h1
        · intro b m L s e
          have e' : (if b = (f i).a then (fun _ => none) else st.F b) m = some (L, s) := e
          split at e'
          · cases e'
          · exact h1 _ _ _ _ e'
      · split
        · have : (armF st (f i).n).F = st.F := by unfold armF; split <;> rfl
          rw [this]; exact h1
        · exact h1
theorem wrote_run (f : Nat → OpR) (room : Int) : ∀ i, Wrote f i (runS f room i).F
  | 0 => fun a m L s e => by cases e
  | i + 1 => wrote_do (wrote_run f room i)
theorem whole_size {l : List Int} (h : l.length ≤ 64) : (wholeI l).size = 64 := by
  unfold wholeI whole
  show (List.toArray _).size = 64
  simp; omega
theorem WroteV.size {f : Nat → OpR} {i : Nat} {a m : Int} {V : ByteArray} (h : WroteV f i a m V) : V.size = 64 := by
  obtain ⟨j, _, _, _, _, e, hl⟩ := h
  rw [e]; exact whole_size hl
/-- bytes as a string again -/
theorem conv_ints {w : World} {a : Option Addr} {n c : Nat} {V : ByteArray} (h : Ints w .u8 (.slice a n c) (bytesI V)) (hV : 0 < V.size) : n = V.size ∧ (convert 28 9 (.slice a n c)).run Try.prog w = .ok (.string V) w := by
  have hlen : (bytesI V).length = V.size := by simp [bytesI]
  have hn : n = V.size := by
    obtain ⟨a', c', e⟩ := Ints.form h
    simp only [Value.slice.injEq] at e
    omega
  refine ⟨hn, ?_⟩
  obtain ⟨_, ⟨h1, _⟩ | ⟨b, o, c', hv, hlt, hc⟩⟩ := h
  · rw [h1] at hlen; simp at hlen; omega
  · simp only [Value.slice.injEq] at hv
    obtain ⟨rfl, _, _⟩ := hv
    have hl2 : V.data.toList.length = n := by rw [hn]; simp
    have hb : (⟨V.data.toList.toArray⟩ : ByteArray) = V := rfl
    have := run_convert_bytes_back (P := Try.prog) w 28 9 5 ⟨b, o, none⟩ c V.data.toList Try.underlying28 Try.underlying5 Try.underlying9 (fun j hj => by
      have hadd : (⟨b, o, none⟩ : Addr).add j = ⟨b, o + j, none⟩ := by unfold Addr.add; split <;> simp_all
      rw [hadd, hc j (by rw [hlen, ← hn, ← hl2]; exact hj)]
      simp [bytesI, List.getD_eq_getElem?_getD, List.getElem?_eq_getElem hj])
    rw [hl2] at this
    rw [this]
theorem conv_nil (w : World) : (convert 28 9 (.slice none 0 0)).run Try.prog w = .ok (.string ByteArray.empty) w :=
  run_convert_bytes_nil (P := Try.prog) w 28 5 Try.underlying28 Try.underlying5 0 0 9 Try.underlying9
end Go.Proofs.Yteidmneenfdafaa.R
