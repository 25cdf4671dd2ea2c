/-
  WdSame.
-/
import Derived.Test.YtkibkbbjpgomlaaDoorWqWdKey4
import Derived.Test.YtkibkbbjpgomlaaDoorWqFstRest
import Derived.Maps.AppendAt
namespace Go.Proofs.YtkibkbbjpgomlaaDoor.F
open Go.RowKit Go.Maps
open Aid
set_option linter.unusedSimpArgs false
set_option linter.unusedVariables false

theorem zero_sl (w : World) : (zeroValue 70).run Tryd.prog w = .ok (.slice none 0 0) w := by kernel_rfl
theorem info_int1 : (Tryd.prog.info? 3).map (fun i => (i.zero, i.size, i.bytes)) = some (some (.int .i64 0), 1, 8) := by kernel_rfl
structure SameIn (B0 mb : Nat) (w : World) (i : Nat) (f : K4 → Option Value) (c : Nat) : Prop where
  map : MapG Tryd.prog 86 K4.v K4.ok w mb f c
  cnt : c ≤ i
  rows : ∀ x v, f x = some v → ∃ l : List Int, w.ownsRow B0 3 1 v l.length (l.map (.int .i64)) ∧ (∀ y ∈ l, 0 ≤ y ∧ y < (i : Int)) ∧ l.length ≤ i
  apart : ∀ x y v u g, f x = some v → f y = some u → v.ownBlock = some g → u.ownBlock = some g → x = y
  lt : mb < B0
  le : B0 ≤ w.heap.size
theorem SameIn.below {B0 mb : Nat} {w w' : World} {i : Nat} {f : K4 → Option Value} {c : Nat} (h : SameIn B0 mb w i f c) (hb : Below w.heap.size w w') : SameIn B0 mb w' i f c :=
  ⟨h.map.kept (hb.block mb h.map.lt), h.cnt, fun x v hx => by
    obtain ⟨l, h1, h2⟩ := h.rows x v hx
    exact ⟨l, owns_below h1 hb, h2⟩, h.apart, h.lt, Nat.le_trans h.le hb.size⟩
theorem SameIn.row {B0 mb : Nat} {w : World} {i : Nat} {f : K4 → Option Value} {c : Nat} (h : SameIn B0 mb w i f c) (x : K4) : ∃ l : List Int, w.ownsRow B0 3 1 ((f x).getD (.slice none 0 0)) l.length (l.map (.int .i64)) ∧ (∀ y ∈ l, 0 ≤ y ∧ y < (i : Int)) ∧ l.length ≤ i := by
  cases hx : f x with
  | none => exact ⟨[], ⟨rfl, .inl ⟨rfl, rfl⟩⟩, (fun y hy => by cases hy), Nat.zero_le _⟩
  | some v => exact h.rows x v hx
theorem SameIn.look {B0 mb : Nat} {w : World} {i : Nat} {f : K4 → Option Value} {c : Nat} (h : SameIn B0 mb w i f c) (x : K4) (hx : x.ok) :
    (Instr.lookup 80 (.map (some mb)) x.v false).run Tryd.prog w = .ok ((f x).getD (.slice none 0 0)) w :=
  MapG.get (Keyed.of_law law_k4) Tryd.underlying80 h.map (zero_sl w) hx (key_k4 x hx)
/-- a state more -/
theorem SameIn.step {B0 mb : Nat} {w : World} {i : Nat} {f : K4 → Option Value} {c : Nat} (h : SameIn B0 mb w i f c) (x : K4) (hx : x.ok) (hi : i ≤ 1000000) (K : Nat) (hK : w.cell? ⟨K, 0, none⟩ = some (.int .i64 i)) (hKm : K ≠ mb) (ty : TypeId) :
    ∃ st wA v' wB wC f' c', (Instr.mapEntry 80 (.map (some mb)) x.v).run Tryd.prog w = .ok (.tuple #[(f x).getD (.slice none 0 0), .int .i64 ((st : Nat) : Int)]) wA ∧
      (Builtin.append_ #[70, 70] ty #[(f x).getD (.slice none 0 0), .slice (some ⟨K, 0, none⟩) 1 1]).run Tryd.prog wA = .ok v' wB ∧
      (Instr.entryStore 80 (.map (some mb)) (.int .i64 ((st : Nat) : Int)) v').run Tryd.prog wB = .ok () wC ∧
      SameIn B0 mb wC (i + 1) f' c' ∧ Turn (fun y => y = mb ∨ B0 ≤ y) w wC := by
  obtain ⟨l, hr1, hr2, hr3⟩ := h.row x
  obtain ⟨v, hv⟩ : ∃ v, (f x).getD (.slice none 0 0) = v := ⟨_, rfl⟩
  obtain ⟨st, o, he, hnext⟩ := MapG.entry (z := .slice none 0 0) law_k4 Tryd.underlying80 h.map (by have := h.cnt; unfold maxLen; omega) zero_sl hx (key_k4 x hx) (fun y e => K4.inj e)
  rw [hv] at hr1 he ⊢
  have hmb := h.map.lt
  have hms : ∃ es clock, w.heap[mb]? = some (.map es clock) := by
    obtain ⟨D, ⟨es, clock, hb, _⟩, _⟩ := h.map
    exact ⟨es, clock, hb⟩
  obtain ⟨es, clock, hms⟩ := hms
  obtain ⟨wA, hwA⟩ : ∃ wA, Go.ChangeMaps.setBlock w mb o = wA := ⟨_, rfl⟩
  have hAs : wA.heap.size = w.heap.size := by rw [← hwA]; simp [Go.ChangeMaps.setBlock]
  have hAo : ∀ y, y ≠ mb → wA.heap[y]? = w.heap[y]? := fun y hy => by rw [← hwA]; exact Go.ChangeMaps.heap_setBlock_other hms _ hy
  have hAm : wA.heap[mb]? = some o := by rw [← hwA]; exact Go.ChangeMaps.heap_setBlock_same hms _
  have hAos : wA.os = w.os ∧ wA.tape = w.tape ∧ wA.output = w.output := by rw [← hwA]; exact ⟨rfl, rfl, rfl⟩
  rw [hwA] at he
  have owA : ∀ {u : Value} {m : List Int}, w.ownsRow B0 3 1 u m.length (m.map (.int .i64)) → wA.ownsRow B0 3 1 u m.length (m.map (.int .i64)) := by
    intro u m ho
    obtain ⟨h1, h2⟩ := ho
    refine ⟨h1, ?_⟩
    rcases h2 with h2 | ⟨g, cap, cur, e1, e2, e3, r⟩
    · exact .inl h2
    · exact .inr ⟨g, cap, cur, e1, e2, by rw [hAo g (fun e => by rw [e, hms] at e3; cases e3)]; exact e3, r⟩
  obtain ⟨ib, hib, hz0, hz1, hz2⟩ := info_parts info_int1
  have hKA : wA.cell? ⟨K, 0, none⟩ = some (.int .i64 i) := by
    unfold World.cell? at hK ⊢
    rw [show (⟨K, 0, none⟩ : Addr).block = K from rfl] at hK ⊢
    rw [hAo K hKm]; exact hK
  obtain ⟨v', wB, hrB, hoB, hgB, _, hlB⟩ := run_append_own_at (P := Tryd.prog) (w := wA) B0 70 ty 3 ib (.int .i64 0) 1 8 Tryd.underlying70 hib hz0 hz1 hz2 rfl (by decide) v l.length (l.map (.int .i64)) (owA hr1) ⟨K, 0, none⟩ 1 1 [.int .i64 i] rfl
    (by
      intro j x' hj
      match j, hj with
      | 0, hj => simp at hj; subst hj; simpa [Addr.add] using hKA
      | j + 1, hj => simp at hj)
    (by intro y' hy; simp at hy; subst hy; rfl) (by unfold maxLen; omega) (by omega) (by rw [hAs]; exact h.le)
  have hBm : wB.heap[mb]? = some o := by
    rw [hgB.block mb (by rw [hAs]; exact hmb) (fun e => ?_)]
    · exact hAm
    · rcases (owA hr1).2 with ⟨e2, _⟩ | ⟨g, cap, cur, e1, e2, e3, r⟩
      · rw [e2] at e; cases e
      · rw [e1] at e
        have e : mb = g := by simpa [Value.ownBlock] using e
        have := h.lt
        omega
  obtain ⟨wC, hrC, hMC, hTC⟩ := hnext wB v' hBm
  have hCs : wC.heap.size = wB.heap.size := turned_size hTC
  have hCo : ∀ y, y ≠ mb → wC.heap[y]? = wB.heap[y]? := fun y hy => turned_block hTC hy
  have hBos : wB.os = wA.os ∧ wB.tape = wA.tape ∧ wB.output = wA.output := ⟨hgB.os, hgB.tape, hgB.output⟩
  have hCos : wC.os = wB.os ∧ wC.tape = wB.tape ∧ wC.output = wB.output := by
    obtain ⟨_, _, _, _, _, e⟩ := hTC
    rw [e]; exact ⟨rfl, rfl, rfl⟩
  have hBmap : ∀ g, v'.ownBlock = some g → g ≠ mb := fun g hg e => by
    subst e
    rcases hoB.2 with ⟨e2, _⟩ | ⟨g', cap, cur, e1, e2, e3, r⟩
    · rw [e2] at hg; cases hg
    · rw [e1] at hg
      have hg : g' = g := by simpa [Value.ownBlock] using hg
      have := h.lt
      omega
  have keepRow : ∀ {u : Value} {m : List Int} {a b : World}, a.ownsRow B0 3 1 u m.length (m.map (.int .i64)) → (∀ g, u.ownBlock = some g → b.heap[g]? = a.heap[g]?) → b.ownsRow B0 3 1 u m.length (m.map (.int .i64)) := by
    intro u m a b ho hk
    obtain ⟨h1, h2⟩ := ho
    refine ⟨h1, ?_⟩
    rcases h2 with h2 | ⟨g, cap, cur, e1, e2, e3, r⟩
    · exact .inl h2
    · exact .inr ⟨g, cap, cur, e1, e2, by rw [hk g (by rw [e1]; rfl)]; exact e3, r⟩
  refine ⟨st, wA, v', wB, wC, updG f x (some v'), _, he, hrB, hrC, ⟨hMC, ?_, fun y u hu => ?_, fun y1 y2 u1 u2 g h1 h2 h3 h4 => ?_, h.lt, ?_⟩, ?_⟩
  · have := h.cnt
    split <;> omega
  · unfold updG at hu
    by_cases hy : y = x
    · rw [if_pos hy] at hu
      cases hu
      refine ⟨l ++ [(i : Int)], ?_, fun z hz => ?_, by rw [List.length_append]; simp only [List.length_cons, List.length_nil]; omega⟩
      · have e1 : (l ++ [(i : Int)]).length = l.length + 1 := by simp
        have e2 : (l ++ [(i : Int)]).map (Value.int .i64) = l.map (.int .i64) ++ [.int .i64 i] := by simp
        have hoB' : wB.ownsRow B0 3 1 v' (l ++ [(i : Int)]).length ((l ++ [(i : Int)]).map (.int .i64)) := by rw [e1, e2]; exact hoB
        exact keepRow hoB' (fun g hg => hCo g (hBmap g hg))
      · rcases List.mem_append.1 hz with hz | hz
        · have := hr2 z hz
          push_cast
          omega
        · rw [List.mem_singleton] at hz
          rw [hz]; push_cast; omega
    · rw [if_neg hy] at hu
      obtain ⟨m, q1, q2, q3⟩ := h.rows y u hu
      refine ⟨m, keepRow (owA q1) (fun g hg => ?_), fun z hz => by have := q2 z hz; push_cast; omega, by omega⟩
      have hgl : g < wA.heap.size := by
        rcases (owA q1).2 with ⟨e2, _⟩ | ⟨g', cap, cur, e1, e2, e3, r⟩
        · rw [e2] at hg; cases hg
        · rw [e1] at hg
          have hg : g' = g := by simpa [Value.ownBlock] using hg
          rw [← hg]
          exact (Array.getElem?_eq_some_iff.1 e3).1
      have hgm : g ≠ mb := fun e => by
        subst e
        rcases q1.2 with ⟨e2, _⟩ | ⟨g', cap, cur, e1, e2, e3, r⟩
        · rw [e2] at hg; cases hg
        · rw [e1] at hg
          have hg : g' = g := by simpa [Value.ownBlock] using hg
          have := h.lt
          omega
      rw [hCo g hgm, hgB.block g hgl (fun e => ?_)]
      cases hfx : f x with
      | none => rw [hfx] at hv; rw [← hv] at e; cases e
      | some v2 =>
        rw [hfx] at hv
        have : v2 = v := hv
        subst this
        exact hy (h.apart y x u v2 g hu hfx hg e.symm)
  · have key : ∀ (y : K4) (u : Value) (g : Nat), y ≠ x → f y = some u → u.ownBlock = some g → v'.ownBlock = some g → False := by
      intro y u g hy hu hug hvg
      have hgl : g < wA.heap.size := by
        obtain ⟨m, q1, _⟩ := h.rows y u hu
        rcases (owA q1).2 with ⟨e2, _⟩ | ⟨g', cap, cur, e1, e2, e3, r⟩
        · rw [e2] at hug; cases hug
        · rw [e1] at hug
          have hg : g' = g := by simpa [Value.ownBlock] using hug
          rw [← hg]
          exact (Array.getElem?_eq_some_iff.1 e3).1
      rcases hlB with e | e
      · rw [hvg] at e
        cases hfx : f x with
        | none => rw [hfx] at hv; rw [← hv] at e; cases e
        | some v2 =>
          rw [hfx] at hv
          have : v2 = v := hv
          subst this
          exact hy (h.apart y x u v2 g hu hfx hug e.symm)
      · rw [hvg] at e
        have : g = wA.heap.size := by simpa using e
        omega
    unfold updG at h1 h2
    by_cases hy1 : y1 = x
    · by_cases hy2 : y2 = x
      · rw [hy1, hy2]
      · rw [if_pos hy1] at h1
        rw [if_neg hy2] at h2
        cases h1
        exact (key y2 u2 g hy2 h2 h4 h3).elim
    · by_cases hy2 : y2 = x
      · rw [if_neg hy1] at h1
        rw [if_pos hy2] at h2
        cases h2
        exact (key y1 u1 g hy1 h1 h3 h4).elim
      · rw [if_neg hy1] at h1
        rw [if_neg hy2] at h2
        exact h.apart y1 y2 u1 u2 g h1 h2 h3 h4
  · rw [hCs]; exact Nat.le_trans (by rw [hAs]; exact h.le) hgB.size
  · refine ⟨by rw [hCs, ← hAs]; exact hgB.size, ?_, ?_, ?_, fun y hy hn => ?_⟩
    · rw [hCos.1, hBos.1, hAos.1]
    · rw [hCos.2.1, hBos.2.1, hAos.2.1]
    · rw [hCos.2.2, hBos.2.2, hAos.2.2]
    · rw [hCo y (fun e => hn (.inl e)), hgB.block y (by rw [hAs]; exact hy) (fun e => ?_), hAo y (fun e => hn (.inl e))]
      rcases (owA hr1).2 with ⟨e2, _⟩ | ⟨g, cap, cur, e1, e2, e3, r⟩
      · rw [e2] at e; cases e
      · rw [e1] at e
        have e : y = g := by simpa [Value.ownBlock] using e
        exact hn (.inr (by omega))
end Go.Proofs.YtkibkbbjpgomlaaDoor.F
