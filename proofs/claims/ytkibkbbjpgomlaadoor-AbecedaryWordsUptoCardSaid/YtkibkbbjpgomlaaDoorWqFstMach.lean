/-
  FstMach.
-/
import Derived.Test.YtkibkbbjpgomlaaDoorWqFstStA
import Derived.Test.YtkibkbbjpgomlaaDoorWqB
namespace Go.Proofs.YtkibkbbjpgomlaaDoor.F
open Go.RowKit Go.Shelf Go.Maps
open Aid L LM
set_option linter.unusedSimpArgs false
set_option linter.unusedVariables false

abbrev Wd := ByteArray × Int
/-- a row of pairs -/
def PairsIn (w : World) (v : Value) (l : List Wd) : Prop :=
  ∃ a cap, v = .slice a l.length cap ∧ l.length ≤ 140737488355328 ∧ l.length ≤ cap ∧ (∀ x ∈ l, (x.1.size : Int) ≤ 35184372088832 ∧ i64 x.2) ∧
    ∀ j x, l[j]? = some x → ∃ g off, a = some ⟨g, off, none⟩ ∧ g < w.heap.size ∧ w.cell? ⟨g, off + j * 2, none⟩ = some (.string x.1) ∧ w.cell? ⟨g, off + j * 2 + 1, none⟩ = some (.int .i64 x.2)
theorem PairsIn.below {w w' : World} {v : Value} {l : List Wd} (h : PairsIn w v l) (hb : Below w.heap.size w w') : PairsIn w' v l := by
  obtain ⟨a, cap, rfl, h1, h1', h2, h3⟩ := h
  refine ⟨a, cap, rfl, h1, h1', h2, fun j x hj => ?_⟩
  obtain ⟨g, off, e, hg, hc, hd⟩ := h3 j x hj
  exact ⟨g, off, e, Nat.lt_of_lt_of_le hg hb.size, (hb.cell (p := ⟨g, off + j * 2, none⟩) hg).trans hc, (hb.cell (p := ⟨g, off + j * 2 + 1, none⟩) hg).trans hd⟩
theorem PairsIn.slice {w : World} {v : Value} {l : List Wd} (h : PairsIn w v l) : ∃ a cap, v = .slice a l.length cap := by
  obtain ⟨a, cap, rfl, _⟩ := h; exact ⟨a, cap, rfl⟩
theorem PairsIn.at_ {w : World} {a : Option Addr} {n cap : Nat} {l : List Wd} (h : PairsIn w (.slice a n cap) l) {j : Nat} {x : Wd} (hx : l[j]? = some x) :
    ∃ g off, a = some ⟨g, off, none⟩ ∧ g < w.heap.size ∧ w.cell? ⟨g, off + j * 2, none⟩ = some (.string x.1) ∧ w.cell? ⟨g, off + j * 2 + 1, none⟩ = some (.int .i64 x.2) := by
  obtain ⟨a', cap', e, _, _, _, h3⟩ := h
  simp only [Value.slice.injEq] at e
  obtain ⟨rfl, rfl, rfl⟩ := e
  exact h3 j x hx
theorem PairsIn.len {w : World} {v : Value} {l : List Wd} (h : PairsIn w v l) : l.length ≤ 140737488355328 := by obtain ⟨_, _, _, h, _⟩ := h; exact h
theorem PairsIn.ok {w : World} {v : Value} {l : List Wd} (h : PairsIn w v l) : ∀ x ∈ l, (x.1.size : Int) ≤ 35184372088832 ∧ i64 x.2 := by obtain ⟨_, _, _, _, _, h, _⟩ := h; exact h
/-- a machine's states -/
def StatesAre (O : Nat → Prop) (w : World) (v : Value) (S : List StM) : Prop :=
  ∃ (a : Option Addr) (cap : Nat) (q : List (StM × Value)), v = .slice a S.length cap ∧ q.map (·.1) = S ∧ S.length ≤ 1000000 ∧ ∀ j (x : StM × Value), q[j]? = some x → (∃ g off, a = some ⟨g, off, none⟩ ∧ g < w.heap.size ∧ ¬ O g ∧ ∀ i u, (stV x.1 x.2)[i]? = some u → w.cell? ⟨g, off + j * 3 + i, none⟩ = some u) ∧ ArcsAre O w x.2 x.1.arcs
theorem StatesAre.turn {O O' : Nat → Prop} {w w' : World} {v : Value} {S : List StM} (h : StatesAre O w v S) (ht : Turn O w w') (hO : ∀ x, x < w.heap.size → O' x → O x) : StatesAre O' w' v S := by
  obtain ⟨a, cap, q, rfl, hq, hl, h3⟩ := h
  refine ⟨a, cap, q, rfl, hq, hl, fun j x hj => ?_⟩
  obtain ⟨⟨g, off, e, hg, hn, hc⟩, ha⟩ := h3 j x hj
  exact ⟨⟨g, off, e, Nat.lt_of_lt_of_le hg ht.size, fun hx => hn (hO g hg hx), fun i u hi => (ht.cell hg hn _).trans (hc i u hi)⟩, ha.turn ht hO⟩
theorem StatesAre.below {O : Nat → Prop} {w w' : World} {v : Value} {S : List StM} (h : StatesAre O w v S) (hb : Below w.heap.size w w') : StatesAre O w' v S := h.turn (Turn.of_below hb) (fun _ _ h => h)
theorem StatesAre.nil (O : Nat → Prop) (w : World) : StatesAre O w (.slice none 0 0) [] := ⟨none, 0, [], rfl, rfl, by simp, fun j x hj => by simp at hj⟩
theorem StatesAre.slice {O : Nat → Prop} {w : World} {v : Value} {S : List StM} (h : StatesAre O w v S) : ∃ a cap, v = .slice a S.length cap := by
  obtain ⟨a, cap, q, rfl, _⟩ := h; exact ⟨a, cap, rfl⟩
theorem StatesAre.len {O : Nat → Prop} {w : World} {v : Value} {S : List StM} (h : StatesAre O w v S) : S.length ≤ 1000000 := by
  obtain ⟨a, cap, q, rfl, _, h, _⟩ := h; exact h
theorem StatesAre.at_ {O : Nat → Prop} {w : World} {a : Option Addr} {n cap : Nat} {S : List StM} (h : StatesAre O w (.slice a n cap) S) {j : Nat} {s : StM} (hs : S[j]? = some s) :
    ∃ g off u, a = some ⟨g, off, none⟩ ∧ g < w.heap.size ∧ ¬ O g ∧ w.cell? ⟨g, off + j * 3, none⟩ = some (.bool s.fin) ∧ w.cell? ⟨g, off + j * 3 + 1, none⟩ = some (.int .i64 s.out) ∧ w.cell? ⟨g, off + j * 3 + 2, none⟩ = some u ∧ ArcsAre O w u s.arcs := by
  obtain ⟨a', cap', q, e, hq, hl, h3⟩ := h
  simp only [Value.slice.injEq] at e
  obtain ⟨rfl, rfl, rfl⟩ := e
  rw [← hq, List.getElem?_map] at hs
  cases hx : q[j]? with
  | none => rw [hx] at hs; cases hs
  | some x =>
    rw [hx] at hs
    obtain rfl : x.1 = s := by simpa using hs
    obtain ⟨⟨g, off, e, hg, hn, hc⟩, ha⟩ := h3 j x hx
    exact ⟨g, off, x.2, e, hg, hn, hc 0 _ rfl, hc 1 _ rfl, hc 2 _ rfl, ha⟩
theorem rowS_at : ∀ (q : List (StM × Value)) (j : Nat) (x : StM × Value), q[j]? = some x → ∀ i u, (stV x.1 x.2)[i]? = some u → (rowS q)[j * 3 + i]? = some u
  | [], j, x, h, _, _, _ => by simp at h
  | a :: A, 0, x, h, i, u, hi => by
    simp at h; subst h
    show ((stV a.1 a.2).toList ++ rowS A)[0 * 3 + i]? = _
    have := (Array.getElem?_eq_some_iff.1 hi).1
    rw [List.getElem?_append_left (by simp; omega)]
    simpa using hi
  | a :: A, j + 1, x, h, i, u, hi => by
    have := rowS_at A j x (by simpa using h) i u hi
    show ((stV a.1 a.2).toList ++ rowS A)[(j + 1) * 3 + i]? = _
    have h3 : (stV a.1 a.2).toList.length = 3 := rfl
    rw [List.getElem?_append_right (by omega), h3, show (j + 1) * 3 + i - 3 = j * 3 + i by omega]
    exact this
theorem Bok.states {w : World} {b : Bd} {S : List StM} {C : Nat} {F : Nat → Prop} (h : Bok w b S C F) (hS : S.length ≤ 1000000) : StatesAre (fun _ => False) w b.v S := by
  obtain ⟨q, nu, by_, h1, rfl, _⟩ := h
  have own := h1.own
  have hall : ∀ x ∈ q, ArcsAre (fun _ => False) w x.2 x.1.arcs := fun x hx => (h1.arcs x hx).turn (Turn.refl _ _) (fun _ _ h => h.elim)
  obtain ⟨p, lm, bm, v⟩ := b
  dsimp only at own
  rcases own.2 with ⟨e, hn⟩ | ⟨g, cap, cur, e, hb, hg, hnc, hcm, hcs, htake⟩
  · subst e
    have hq : q = [] := List.eq_nil_of_length_eq_zero hn
    subst hq
    exact ⟨none, 0, [], rfl, rfl, hS, fun j x hj => by simp at hj⟩
  · subst e
    have hgl : g < w.heap.size := (Array.getElem?_eq_some_iff.1 hg).1
    refine ⟨_, cap, q, by rw [List.length_map], rfl, hS, fun j x hj => ⟨⟨g, 0, rfl, hgl, id, fun i u hi => ?_⟩, hall x (List.mem_of_getElem? hj)⟩⟩
    have := own.cells (g := g) rfl (j * 3 + i) u (rowS_at q j x hj i u hi)
    rw [add_plain] at this
    rw [Nat.zero_add]
    exact this
/-- states that a builder holds lie in none of the blocks that were there ahead of it, where they avoid them -/
theorem states_off' {w : World} {b : Bd} {S : List StM} {C : Nat} {F : Nat → Prop} (h : Bok w b S C F) (hF : ∀ x, b.v.ownBlock = some x → ¬ F x) (hS : S.length ≤ 1000000) : StatesAre F w b.v S := by
  obtain ⟨q, nu, by_, h1, rfl, _, _, _, f1⟩ := h
  have own := h1.own
  have hall : ∀ x ∈ q, ArcsAre F w x.2 x.1.arcs := fun x hx => by
    obtain ⟨a, cap, e, g1, g2, g3⟩ := h1.arcs x hx
    have f2 := f1 x hx
    refine ⟨a, cap, e, g1, fun y hy => ⟨(g2 y hy).1, f2 y.block (by rw [e, hy]; rfl)⟩, fun j y hj => ?_⟩
    obtain ⟨g, off, e1, e2, e3, e4⟩ := g3 j y hj
    exact ⟨g, off, e1, e2, f2 g (by rw [e, e1]; rfl), e4⟩
  obtain ⟨p, lm, bm, v⟩ := b
  dsimp only at own hF
  rcases own.2 with ⟨e, hn⟩ | ⟨g, cap, cur, e, hb, hg, hnc, hcm, hcs, htake⟩
  · subst e
    have hq : q = [] := List.eq_nil_of_length_eq_zero hn
    subst hq
    exact ⟨none, 0, [], rfl, rfl, hS, fun j x hj => by simp at hj⟩
  · subst e
    have hgl : g < w.heap.size := (Array.getElem?_eq_some_iff.1 hg).1
    refine ⟨_, cap, q, by rw [List.length_map], rfl, hS, fun j x hj => ⟨⟨g, 0, rfl, hgl, hF g rfl, fun i u hi => ?_⟩, hall x (List.mem_of_getElem? hj)⟩⟩
    have := own.cells (g := g) rfl (j * 3 + i) u (rowS_at q j x hj i u hi)
    rw [add_plain] at this
    rw [Nat.zero_add]
    exact this
/-- what is wrong with the words, from one on; 0: nothing -/
def errF : Option ByteArray → List Wd → Int
  | _, [] => 0
  | p, x :: l => if wordB x.1 = false then 71 else if x.2 < 1 ∨ 1048576 < x.2 then 72 else
    if (match p with | none => false | some y => !Op.bytesLess y.toList x.1.toList) = true then 73 else errF (some x.1) l
def buildE (l : List Wd) : Int := if 4096 < l.length then 70 else errF none l
def runesOf (s : ByteArray) : List Int := (runes s.data.toList).getD []
def restsF (l : List Wd) : List Rw := l.map fun x => (runesOf x.1, x.2)
def makeF (l : List Wd) : Int × List StM := if l = [] then (0, []) else (low (restsF l), (stateF 25 [] (restsF l)).1)
def buildF (l : List Wd) : (Int × List StM) × Int := if buildE l = 0 then (makeF l, 0) else ((0, []), buildE l)
/-- the last one of some, else p -/
def lastO (p : Option ByteArray) (l : List Wd) : Option ByteArray := match l.getLast? with | none => p | some x => some x.1
def okW (p : Option ByteArray) (x : Wd) : Prop := wordB x.1 = true ∧ 1 ≤ x.2 ∧ x.2 ≤ 1048576 ∧ ∀ y, p = some y → Op.bytesLess y.toList x.1.toList = true
theorem errF_cons (p : Option ByteArray) (x : Wd) (l : List Wd) : errF p (x :: l) = if wordB x.1 = false then 71 else if x.2 < 1 ∨ 1048576 < x.2 then 72 else
    if (match p with | none => false | some y => !Op.bytesLess y.toList x.1.toList) = true then 73 else errF (some x.1) l := by cases p <;> rfl
theorem errF_ok {p : Option ByteArray} {x : Wd} {l : List Wd} (h : okW p x) : errF p (x :: l) = errF (some x.1) l := by
  obtain ⟨h1, h2, h3, h4⟩ := h
  rw [errF_cons, if_neg (by simp [h1]), if_neg (by omega)]
  cases p with
  | none => simp
  | some y => simp [h4 y rfl]
theorem errF_inv {p : Option ByteArray} {x : Wd} {l : List Wd} (h : errF p (x :: l) = 0) : okW p x ∧ errF (some x.1) l = 0 := by
  rw [errF_cons] at h
  split at h
  · omega
  · split at h
    · omega
    · rename_i h1 h2
      have h1' : wordB x.1 = true := by simpa using h1
      cases p with
      | none => exact ⟨⟨h1', by omega, by omega, fun y e => by cases e⟩, by simpa using h⟩
      | some y =>
        dsimp only at h
        split at h
        · omega
        · rename_i h3
          exact ⟨⟨h1', by omega, by omega, fun z e => by cases e; simpa using h3⟩, h⟩
theorem runes_word {s : ByteArray} (h : wordB s = true) : ∃ l, runes s.data.toList = some l ∧ runesOf s = l ∧ (∀ r ∈ l, scalar r = true) ∧ s.data.toList = encs l ∧ l ≠ [] ∧ l.length ≤ 24 := by
  unfold wordB at h
  cases hr : runes s.data.toList with
  | none => rw [hr] at h; simp at h
  | some l =>
    rw [hr] at h
    simp at h
    obtain ⟨h1, h2⟩ := runes_iff.1 hr
    exact ⟨l, rfl, by unfold runesOf; rw [hr]; rfl, h1, h2, by intro e; subst e; simp at h, by omega⟩
theorem toList_eq (s : ByteArray) : s.toList = s.data.toList := by
  rw [ByteArray.toList_eq]
theorem lex_encs : ∀ (l m : List Int), (∀ r ∈ l, scalar r = true) → (∀ r ∈ m, scalar r = true) → lex (ns (encs l)) (ns (encs m)) = lexR l m
  | [], [], _, _ => rfl
  | [], y :: m, _, h2 => by
    rw [encs_cons, ns_append]
    have := enc_len y
    cases he : enc y with
    | nil => rw [he] at this; simp at this
    | cons c t => rfl
  | x :: l, [], h1, _ => by
    rw [encs_cons, ns_append]
    have := enc_len x
    cases he : enc x with
    | nil => rw [he] at this; simp at this
    | cons c t => rfl
  | x :: l, y :: m, h1, h2 => by
    have hx := h1 x (List.mem_cons_self)
    have hy := h2 y (List.mem_cons_self)
    rw [encs_cons, encs_cons, ns_append, ns_append]
    unfold lexR
    by_cases e : x = y
    · subst e
      rw [if_pos rfl, lex_drop (ns (enc x)).length (by simp) (by simp) (by simp), List.drop_left, List.drop_left]
      exact lex_encs l m (fun r hr => h1 r (.tail _ hr)) (fun r hr => h2 r (.tail _ hr))
    · rw [if_neg e]
      exact lex_enc hx hy e _ _
theorem less_runes {s t : ByteArray} (hs : wordB s = true) (ht : wordB t = true) : Op.bytesLess s.toList t.toList = lexR (runesOf s) (runesOf t) := by
  obtain ⟨l, _, e1, h1, h2, _⟩ := runes_word hs
  obtain ⟨m, _, e2, h3, h4, _⟩ := runes_word ht
  rw [bytesLess_lex, e1, e2, toList_eq, toList_eq, h2, h4]
  exact lex_encs l m h1 h3
theorem lexR_trans : ∀ {a b c : List Int}, lexR a b = true → lexR b c = true → lexR a c = true
  | [], [], _, h, _ => by cases h
  | _ :: _, [], _, h, _ => by cases h
  | _, _ :: _, [], _, h => by cases h
  | [], _ :: _, _ :: _, _, _ => rfl
  | x :: a, y :: b, z :: c, h1, h2 => by
    unfold lexR at h1 h2 ⊢
    split at h1
    · rename_i e; subst e
      split at h2
      · rename_i e; subst e
        rw [if_pos rfl]; exact lexR_trans h1 h2
      · rename_i e; rw [if_neg e]; exact h2
    · rename_i e
      simp at h1
      split at h2
      · rename_i e; subst e
        rw [if_neg (by omega)]; simpa using h1
      · simp at h2
        rw [if_neg (by omega)]; simp; omega
theorem errF_sorted : ∀ (l : List Wd) (p : Option ByteArray), errF p l = 0 → (∀ y, p = some y → wordB y = true) → (restsF l).Pairwise (fun a b => lexR a.1 b.1 = true) ∧ (∀ x ∈ l, wordB x.1 = true ∧ 1 ≤ x.2 ∧ x.2 ≤ 1048576) ∧ ∀ y, p = some y → ∀ x ∈ restsF l, lexR (runesOf y) x.1 = true
  | [], _, _, _ => ⟨.nil, by simp, by simp [restsF]⟩
  | x :: l, p, h, hp => by
    obtain ⟨⟨h1, h2, h3, h4⟩, h5⟩ := errF_inv h
    obtain ⟨g1, g2, g3⟩ := errF_sorted l (some x.1) h5 (fun y e => by cases e; exact h1)
    have hx : ∀ y, p = some y → lexR (runesOf y) (runesOf x.1) = true := fun y e => by rw [← less_runes (hp y e) h1]; exact h4 y e
    refine ⟨.cons (fun y hy => g3 _ rfl y hy) g1, fun y hy => ?_, fun y e z hz => ?_⟩
    · rcases List.mem_cons.1 hy with rfl | hy
      · exact ⟨h1, h2, h3⟩
      · exact g2 y hy
    · rcases List.mem_cons.1 hz with rfl | hz
      · exact hx y e
      · exact lexR_trans (hx y e) (g3 _ rfl z hz)
theorem rests_ok {l : List Wd} (h : buildE l = 0) : RwOk 25 (restsF l) := by
  unfold buildE at h
  split at h
  · omega
  rename_i hl
  obtain ⟨g1, g2, _⟩ := errF_sorted l none h (by simp)
  refine ⟨g1, fun x hx => ?_, fun x hx c hc => ?_, fun x hx => ?_, by simp [restsF]; omega⟩
  all_goals
    obtain ⟨y, hy, rfl⟩ := List.mem_map.1 hx
    obtain ⟨k1, k2, k3⟩ := g2 y hy
    obtain ⟨r, _, e, hs, _, _, hlen⟩ := runes_word k1
  · rw [show (runesOf y.1, y.2).1 = r from e]; omega
  · have := hs c (by rw [← e]; exact hc)
    rw [scalar_iff] at this
    omega
  · exact ⟨by show 0 ≤ y.2; omega, k3⟩
theorem tot_rests : ∀ (n : Nat) (l : List Rw), (∀ x ∈ l, x.1.length < n + 1) → tot l ≤ n * l.length
  | _, [], _ => by simp [tot]
  | n, x :: l, h => by
    have h1 := h x (List.mem_cons_self)
    have h2 := tot_rests n l (fun y hy => h y (.tail _ hy))
    rw [List.length_cons, Nat.mul_add]
    show x.1.length + tot l ≤ _
    omega
end Go.Proofs.YtkibkbbjpgomlaaDoor.F
