/-
  A way from one text to another, plain.
-/
import Derived.Test.YtkgmikglifmenaaDoorEdMath
import Derived.Test.YtkgmikglifmenaaDoorLetMath
namespace Go.Proofs.YtkgmikglifmenaaDoor.E
open LM EM
set_option linter.unusedVariables false
set_option linter.unusedSimpArgs false

/-- what the text is on the way -/
def curL (l m : List Int) (i j : Nat) : List Int := m.take j ++ l.drop i
theorem cur_start (l m : List Int) : curL l m l.length m.length = m := by simp [curL]
theorem cur_end (l m : List Int) : curL l m 0 0 = l := by simp [curL]
theorem take_one {m : List Int} {q : Nat} (h : q < m.length) : m.take (q + 1) = m.take q ++ [m[q]] := List.take_succ_eq_append_getElem h
theorem drop_one {l : List Int} {p : Nat} (h : p < l.length) : l.drop p = l[p] :: l.drop (p + 1) := List.drop_eq_getElem_cons h
theorem cur_same {l m : List Int} {p q : Nat} (hp : p < l.length) (hq : q < m.length) (h : l[p] = m[q]) : curL l m (p + 1) (q + 1) = curL l m p q := by
  unfold curL
  rw [take_one hq, drop_one hp, h, List.append_assoc, List.singleton_append]
theorem lv_single {x y : Int} (h : x ≠ y) : lv [x] [y] = 1 := by
  rw [lv_cons_cons, if_neg h]
  simp [lv_nil, lv_cons_nil]
theorem cur_sub {l m : List Int} {p q : Nat} (hp : p < l.length) (hq : q < m.length) (h : l[p] ≠ m[q]) : once (curL l m p q) (curL l m (p + 1) (q + 1)) = true := by
  rw [← once_iff]
  unfold curL
  rw [take_one hq, drop_one hp, List.append_assoc, lv_left, ← List.singleton_append, lv_right]
  exact lv_single h
theorem cur_del {l m : List Int} {i q : Nat} (hq : q < m.length) : once (curL l m i q) (curL l m i (q + 1)) = true := by
  rw [← once_iff]
  unfold curL
  rw [take_one hq, List.append_assoc, lv_left]
  have := lv_right [] [m[q]] (l.drop i)
  rw [List.nil_append] at this
  rw [this]
  rfl
theorem cur_ins {l m : List Int} {p j : Nat} (hp : p < l.length) : once (curL l m p j) (curL l m (p + 1) j) = true := by
  rw [← once_iff]
  unfold curL
  rw [drop_one hp, lv_left, ← List.singleton_append]
  have := lv_right [l[p]] [] (l.drop (p + 1))
  rw [List.nil_append] at this
  rw [this]
  rfl
theorem cur_scalar {l m : List Int} {i j : Nat} (hl : ∀ r ∈ l, scalar r = true) (hm : ∀ r ∈ m, scalar r = true) : ∀ r ∈ curL l m i j, scalar r = true := fun r hr => by
  rcases List.mem_append.1 hr with h | h
  · exact hm r (List.mem_of_mem_take h)
  · exact hl r (List.mem_of_mem_drop h)
theorem cur_len (l m : List Int) (i j : Nat) : (curL l m i j).length ≤ l.length + m.length := by
  unfold curL; simp; omega
theorem cur_len' {l m : List Int} {i j : Nat} (hj : j ≤ m.length) (hi : i ≤ l.length) : (curL l m i j).length = j + (l.length - i) := by
  unfold curL; simp; omega
/-- how the row of numbers turns -/
theorem cur_set {l m : List Int} {p q : Nat} (hp : p < l.length) (hq : q < m.length) : (curL l m (p + 1) (q + 1)).set q l[p] = curL l m p q := by
  unfold curL
  rw [take_one hq, drop_one hp]
  have hl : (m.take q).length = q := by rw [List.length_take]; omega
  rw [List.append_assoc, List.set_append_right _ _ (by omega), hl, Nat.sub_self]
  rfl
theorem cur_erase {l m : List Int} {i q : Nat} (hq : q < m.length) : (curL l m i (q + 1)).eraseIdx q = curL l m i q := by
  unfold curL
  rw [take_one hq]
  have hl : (m.take q).length = q := by rw [List.length_take]; omega
  rw [List.append_assoc, List.eraseIdx_append_of_length_le (by omega), hl, Nat.sub_self]
  rfl
theorem cur_put {l m : List Int} {p j : Nat} (hp : p < l.length) (hj : j ≤ m.length) : (curL l m (p + 1) j).take j ++ l[p] :: (curL l m (p + 1) j).drop j = curL l m p j := by
  unfold curL
  have hl : (m.take j).length = j := by rw [List.length_take]; omega
  rw [List.take_left' hl, List.drop_left' hl, drop_one hp]
/-- two texts behind one another on the way: one edit -/
def One (s t : ByteArray) : Prop := ∃ x y, runes s.data.toList = some x ∧ runes t.data.toList = some y ∧ once y x = true ∧ x.length ≤ 2048 ∧ y.length ≤ 2048
structure PathInv (b : ByteArray) (l m : List Int) (i j : Nat) (T : List ByteArray) : Prop where
  len : T.length + D l m i j = lv l m + 1
  head : T.head? = some b
  chain : ∀ k s t, T[k]? = some s → T[k + 1]? = some t → One s t
  last : ∃ t, T.getLast? = some t ∧ runes t.data.toList = some (curL l m i j)
  hi : i ≤ l.length
  hj : j ≤ m.length
  hl : l.length ≤ 1024
  hm : m.length ≤ 1024
theorem PathInv.start {b : ByteArray} {l m : List Int} (h : runes b.data.toList = some m) (hl : l.length ≤ 1024) (hm : m.length ≤ 1024) : PathInv b l m l.length m.length [b] :=
  ⟨by rw [D_full]; simp; omega, rfl, fun k s t _ h => by simp at h, ⟨b, rfl, by rw [cur_start]; exact h⟩, Nat.le_refl _, Nat.le_refl _, hl, hm⟩
theorem PathInv.same {b : ByteArray} {l m : List Int} {p q : Nat} {T : List ByteArray} (h : PathInv b l m (p + 1) (q + 1) T) (hp : p < l.length) (hq : q < m.length) (he : l[p] = m[q]) : PathInv b l m p q T := by
  obtain ⟨h1, h2, h3, h4, _, _, h5, h6⟩ := h
  exact ⟨by rw [← D_same l m hp hq he]; exact h1, h2, h3, by rw [← cur_same hp hq he]; exact h4, by omega, by omega, h5, h6⟩
theorem PathInv.step {b : ByteArray} {l m : List Int} {i j i' j' : Nat} {T : List ByteArray} {t : ByteArray} (h : PathInv b l m i j T) (hi : i' ≤ l.length) (hj : j' ≤ m.length) (hd : D l m i' j' + 1 = D l m i j) (ho : once (curL l m i' j') (curL l m i j) = true)
    (ht : runes t.data.toList = some (curL l m i' j')) : PathInv b l m i' j' (T ++ [t]) := by
  obtain ⟨h1, h2, h3, ⟨s, hs, hr⟩, _, _, h5, h6⟩ := h
  refine ⟨by rw [List.length_append]; simp; omega, ?_, fun k x y hx hy => ?_, ⟨t, by simp, ht⟩, hi, hj, h5, h6⟩
  · cases T with
    | nil => cases h2
    | cons c T => simpa using h2
  · have hk := (List.getElem?_eq_some_iff.1 hy).1
    rw [List.length_append] at hk
    simp only [List.length_cons, List.length_nil] at hk
    by_cases hkl : k + 1 < T.length
    · rw [List.getElem?_append_left (by omega)] at hx hy
      exact h3 k x y hx hy
    · have hkl' : k + 1 = T.length := by omega
      rw [List.getElem?_append_left (by omega)] at hx
      rw [List.getElem?_append_right (by omega), hkl', Nat.sub_self] at hy
      simp at hy
      subst hy
      rw [List.getLast?_eq_getElem?, show T.length - 1 = k by omega, hx] at hs
      cases hs
      exact ⟨_, _, hr, ht, ho, by have := cur_len l m i j; omega, by have := cur_len l m i' j'; omega⟩
/-- what Path tells -/
def PathOk (a b : ByteArray) (n : Nat) (L : List ByteArray) : Prop :=
  L.length = n + 1 ∧ L[0]? = some a ∧ L[n]? = some b ∧ ∀ k s t, L[k]? = some s → L[k + 1]? = some t → ∃ x y, runes s.data.toList = some x ∧ runes t.data.toList = some y ∧ once x y = true ∧ x.length ≤ 2048 ∧ y.length ≤ 2048
theorem text_eq {s t : ByteArray} {l : List Int} (h1 : runes s.data.toList = some l) (h2 : runes t.data.toList = some l) : s = t := by
  have e1 := (runes_iff.1 h1).2
  have e2 := (runes_iff.1 h2).2
  have : s.data = t.data := Array.toList_inj.1 (e1.trans e2.symm)
  cases s; cases t
  simp at this
  rw [this]
theorem PathInv.ok {a b : ByteArray} {l m : List Int} {T : List ByteArray} (h : PathInv b l m 0 0 T) (ha : runes a.data.toList = some l) : PathOk a b (lv l m) T.reverse := by
  obtain ⟨h1, h2, h3, ⟨t, ht, hr⟩, _, _, _, _⟩ := h
  rw [D_zero_left l m (Nat.zero_le _)] at h1
  have hl : T.length = lv l m + 1 := by omega
  rw [cur_end] at hr
  have hta := text_eq hr ha
  subst hta
  refine ⟨by rw [List.length_reverse]; exact hl, ?_, ?_, fun k s u hs hu => ?_⟩
  · rw [List.getElem?_reverse (by omega), ← ht, List.getLast?_eq_getElem?]; congr 1
  · rw [List.getElem?_reverse (by omega), hl, ← h2, List.head?_eq_getElem?]; congr 1; omega
  · have hk := (List.getElem?_eq_some_iff.1 hu).1
    rw [List.length_reverse] at hk
    rw [List.getElem?_reverse (by omega)] at hs hu
    obtain ⟨x, y, g1, g2, g3, g4, g5⟩ := h3 (T.length - 1 - (k + 1)) u s hu (by rw [show T.length - 1 - (k + 1) + 1 = T.length - 1 - k by omega]; exact hs)
    exact ⟨y, x, g2, g1, g3, g5, g4⟩
/-- the distances ahead of the last numbers -/
theorem D_other' {l m : List Int} {p q : Nat} (hp : p < l.length) (hq : q < m.length) (h : l[p] ≠ m[q]) (h1 : D l m p q + 1 ≠ D l m (p + 1) (q + 1)) (h2 : D l m (p + 1) q + 1 ≠ D l m (p + 1) (q + 1)) : D l m p (q + 1) + 1 = D l m (p + 1) (q + 1) := by
  rw [D_other l m hp hq h] at h1 h2 ⊢
  omega
end Go.Proofs.YtkgmikglifmenaaDoor.E
