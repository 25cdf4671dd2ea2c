/-
  WdPkM.
-/
import Derived.Test.YtkibkbbjpgomlaaDoorWqWdMath
import Derived.Test.YtkibkbbjpgomlaaDoorWqWdCod
namespace Go.Proofs.YtkibkbbjpgomlaaDoor.F
open Go.RowKit
open Aid L LM
open W (putU putU_ten)
set_option linter.unusedSimpArgs false
set_option linter.unusedVariables false

def arcB (i : Nat) (lab : Int) (a : ArcM) : List Int := putU (a.label - lab).toNat ++ (putU a.out.toNat ++ putU ((i : Int) - a.to_).toNat)
def arcsB (i : Nat) : Int → List ArcM → List Int
  | _, [] => []
  | lab, a :: l => arcB i lab a ++ arcsB i a.label l
def lastL : Int → List ArcM → Int
  | lab, [] => lab
  | _, a :: l => lastL a.label l
theorem lastL_snoc : ∀ (l : List ArcM) (lab : Int) (a : ArcM), lastL lab (l ++ [a]) = a.label
  | [], _, _ => rfl
  | b :: l, _, a => lastL_snoc l b.label a
theorem arcsB_snoc (i : Nat) : ∀ (l : List ArcM) (lab : Int) (a : ArcM), arcsB i lab (l ++ [a]) = arcsB i lab l ++ arcB i (lastL lab l) a
  | [], lab, a => by simp [arcsB, lastL]
  | b :: l, lab, a => by rw [List.cons_append, arcsB, arcsB, arcsB_snoc i l b.label a, lastL, List.append_assoc]
def headB (s : StM) : List Int := if s.fin then putU (2 * s.arcs.length + 1) ++ putU s.out.toNat else putU (2 * s.arcs.length)
def stB (i : Nat) (s : StM) : List Int := headB s ++ arcsB i 0 s.arcs
def stsB : Nat → List StM → List Int
  | _, [] => []
  | i, s :: l => stB i s ++ stsB (i + 1) l
theorem stsB_snoc : ∀ (l : List StM) (i : Nat) (s : StM), stsB i (l ++ [s]) = stsB i l ++ stB (i + l.length) s
  | [], i, s => by simp [stsB]
  | b :: l, i, s => by rw [List.cons_append, stsB, stsB, stsB_snoc l (i + 1) s, List.append_assoc, List.length_cons, show i + 1 + l.length = i + (l.length + 1) by omega]
def packF (B : Int) (S : List StM) : List Int := putU B.toNat ++ (putU S.length ++ stsB 0 S)
theorem putU_pos (n : Nat) : 1 ≤ (putU n).length := by
  by_cases h : 128 ≤ n
  · rw [W.putU_big h]; simp
  · rw [W.putU_small (by omega)]; simp
theorem arcB_len (i : Nat) (lab : Int) (a : ArcM) (h1 : a.label - lab < 4294967296) (h2 : a.out < 4294967296) (h3 : (i : Int) - a.to_ < 4294967296) : (arcB i lab a).length ≤ 30 ∧ 3 ≤ (arcB i lab a).length := by
  unfold arcB
  simp only [List.length_append]
  have e1 := putU_ten (n := (a.label - lab).toNat) (by omega)
  have e2 := putU_ten (n := a.out.toNat) (by omega)
  have e3 := putU_ten (n := ((i : Int) - a.to_).toNat) (by omega)
  have f1 := putU_pos (a.label - lab).toNat
  have f2 := putU_pos a.out.toNat
  have f3 := putU_pos ((i : Int) - a.to_).toNat
  omega
/-- what arcs may be, to be written -/
def ArcW (i : Nat) (a : ArcM) : Prop := (0 ≤ a.label ∧ a.label ≤ 1114111) ∧ (0 ≤ a.out ∧ a.out ≤ 1048576) ∧ 0 ≤ a.to_ ∧ a.to_.toNat < i
theorem arcsB_len {i : Nat} (hi : i ≤ 1000000) : ∀ (l : List ArcM) (lab : Int), 0 ≤ lab → (∀ a ∈ l, ArcW i a) → (arcsB i lab l).length ≤ 30 * l.length ∧ 3 * l.length ≤ (arcsB i lab l).length
  | [], _, _, _ => by simp [arcsB]
  | a :: l, lab, hl, h => by
    obtain ⟨⟨q1, q2⟩, ⟨q3, q4⟩, q5, q6⟩ := h a List.mem_cons_self
    have h1 := arcB_len i lab a (by omega) (by omega) (by omega)
    have h2 := arcsB_len hi l a.label q1 (fun b hb => h b (List.mem_cons_of_mem _ hb))
    rw [arcsB, List.length_append, List.length_cons]
    omega
theorem headB_len (s : StM) (h : s.arcs.length ≤ 1000000) (ho : 0 ≤ s.out ∧ s.out ≤ 1048576) : 1 ≤ (headB s).length ∧ (headB s).length ≤ 20 := by
  unfold headB
  split
  · rw [List.length_append]
    have e1 := putU_ten (n := 2 * s.arcs.length + 1) (by omega)
    have e2 := putU_ten (n := s.out.toNat) (by omega)
    have f1 := putU_pos (2 * s.arcs.length + 1)
    omega
  · have e1 := putU_ten (n := 2 * s.arcs.length) (by omega)
    have f1 := putU_pos (2 * s.arcs.length)
    omega
/-- what states may be, to be written -/
def StW (i : Nat) (s : StM) : Prop := s.arcs.length ≤ 1000000 ∧ (0 ≤ s.out ∧ s.out ≤ 1048576) ∧ (s.fin = false → s.out = 0) ∧ Rise s ∧ ∀ a ∈ s.arcs, ArcW i a
theorem stB_len {i : Nat} (hi : i ≤ 1000000) {s : StM} (h : StW i s) : (stB i s).length ≤ 40000000 ∧ 1 + 3 * s.arcs.length ≤ (stB i s).length := by
  obtain ⟨h1, h2, _, _, h3⟩ := h
  have e1 := headB_len s h1 h2
  have e2 := arcsB_len hi s.arcs 0 (by omega) h3
  unfold stB
  rw [List.length_append]
  omega
theorem stsB_len : ∀ (l : List StM) (i : Nat), i + l.length ≤ 1000000 → (∀ j s, l[j]? = some s → StW (i + j) s) → (stsB i l).length ≤ 40000000 * l.length
  | [], _, _, _ => by simp [stsB]
  | s :: l, i, hi, h => by
    have h1 := stB_len (i := i) (by omega) (h 0 s rfl)
    have h2 := stsB_len l (i + 1) (by simp only [List.length_cons] at hi; omega) (fun j t hj => by
      have := h (j + 1) t (by simpa using hj)
      rw [show i + 1 + j = i + (j + 1) by omega]; exact this)
    rw [stsB, List.length_append, List.length_cons]
    omega
theorem packF_len (B : Int) (S : List StM) (hB : B ≤ 1048576) (hS : S.length ≤ 98305) (h : ∀ j s, S[j]? = some s → StW j s) : (packF B S).length ≤ 5000000000000 := by
  unfold packF
  simp only [List.length_append]
  have e1 := putU_ten (n := B.toNat) (by omega)
  have e2 := putU_ten (n := S.length) (by omega)
  have e3 := stsB_len S 0 (by omega) (fun j s hj => by rw [Nat.zero_add]; exact h j s hj)
  omega
theorem StOk.w {S : List StM} {k : Nat} {s : StM} (h : StOk S k s) (hk : k ≤ 1000000) (hl : s.arcs.length ≤ 1000000) : StW k s :=
  ⟨hl, h.out, h.fin0, h.rise, fun a ha => by
    obtain ⟨h1, h2, h3, h4⟩ := h.arcs a ha
    have := scalar_iff.1 h3
    exact ⟨⟨this.1, this.2.1⟩, h2, h1.1, h1.2⟩⟩
theorem Rise.le {s : StM} (h : Rise s) (h0 : ∀ a ∈ s.arcs, 0 ≤ a.label) {j : Nat} {a : ArcM} (hj : s.arcs[j]? = some a) : 0 ≤ lastL 0 (s.arcs.take j) ∧ lastL 0 (s.arcs.take j) ≤ a.label := by
  cases j with
  | zero => exact ⟨Int.le_refl _, h0 a (List.mem_of_getElem? hj)⟩
  | succ j =>
    obtain ⟨hl, e⟩ := List.getElem?_eq_some_iff.1 hj
    have hb : s.arcs[j]? = some (s.arcs[j]'(by omega)) := List.getElem?_eq_getElem (by omega)
    rw [take_snoc hb, lastL_snoc]
    refine ⟨h0 _ (List.mem_of_getElem? hb), ?_⟩
    have := List.pairwise_iff_getElem.1 h j (j + 1) (by omega) hl (by omega)
    rw [e] at this
    exact Int.le_of_lt this
end Go.Proofs.YtkibkbbjpgomlaaDoor.F
