/-
  WdRd.
-/
import Derived.Test.YtkibkbbjpgomlaaDoorWqWdCod
import Derived.Test.YtkibkbbjpgomlaaDoorWqFstRest
import Derived.Lib.SliceRun
namespace Go.Proofs.YtkibkbbjpgomlaaDoor.W
open Go.RowKit
open Aid
set_option linter.unusedSimpArgs false
set_option linter.unusedVariables false

theorem turn_setW (w : World) (x : Nat) (u : Value) {i : Nat} : F.Turn (fun y => y = x) w (w.setCell ⟨x, i, none⟩ u) :=
  ⟨by simp [World.setCell], rfl, rfl, rfl, fun y _ hn => Below.heap_setCell _ _ _ _ (fun e => hn e)⟩
theorem ints_kept {O : Nat → Prop} {w w' : World} {k : IntKind} {v : Value} {l : List Int} (h : Ints w k v l) (hK : F.Turn O w w') (hO : ∀ b o n c, v = .slice (some ⟨b, o, none⟩) n c → n ≠ 0 → ¬ O b) : Ints w' k v l := by
  obtain ⟨h0, h | ⟨b, off, cap, hv, hlt, hc⟩⟩ := h
  · exact ⟨h0, .inl h⟩
  · exact ⟨h0, .inr ⟨b, off, cap, hv, by have := hK.size; omega, fun j hj => (hK.cell hlt (hO _ _ _ _ hv (by omega)) _).trans (hc j hj)⟩⟩
theorem ints_ends {w : World} {v : Value} {l : List Int} (h : Ints w .u8 v l) : ∃ a c, v = .slice a l.length c ∧ (a = none → l = [] ∧ c = 0) := by
  obtain ⟨_, ⟨rfl, rfl | ⟨ad, cap, rfl⟩⟩ | ⟨b, off, cap, rfl, _⟩⟩ := h
  · exact ⟨none, 0, rfl, fun _ => ⟨rfl, rfl⟩⟩
  · exact ⟨some ad, cap, rfl, fun e => (nomatch e)⟩
  · exact ⟨some _, cap, rfl, fun e => (nomatch e)⟩
theorem add_any (b o k : Nat) : (⟨b, o, none⟩ : Addr).add k = ⟨b, o + k, none⟩ := by unfold Addr.add; split <;> simp_all
theorem ints_lt {w : World} {v : Value} {l : List Int} (h : Ints w .u8 v l) {b o n c : Nat} (e : v = .slice (some ⟨b, o, none⟩) n c) (hn : n ≠ 0) : b < w.heap.size := by
  subst e
  obtain ⟨_, ⟨_, h1 | ⟨a, cap, h1⟩⟩ | ⟨b', off, cap, h1, h2, _⟩⟩ := h
  · cases h1
  · simp at h1; exact absurd h1.2.1 hn
  · simp at h1; rw [h1.1.1]; exact h2
def CapOk (v : Value) : Prop := ∀ a n c, v = .slice a n c → n ≤ c
theorem own_capOk {w : World} {base : Nat} {e : TypeId} {size n : Nat} {v : Value} {xs : List Value} (h : w.ownsRow base e size v n xs) : CapOk v := by
  rintro a m c rfl
  rcases h.2 with ⟨e, h0⟩ | ⟨g, cap, cur, hv, _, _, h1, _⟩
  · simp at e; omega
  · simp at hv; omega
theorem ints_drop {w : World} {a : Option Addr} {n c k : Nat} {l : List Int} (h : Ints w .u8 (.slice a n c) l) (hk : k ≤ n) : Ints w .u8 (.slice (a.map fun x => x.add k) (n - k) (c - k)) (l.drop k) := by
  obtain ⟨h0, ⟨rfl, h1 | ⟨ad, cap, h1⟩⟩ | ⟨b, o, cap, hv, hlt, hc⟩⟩ := h
  · simp at h1
    obtain ⟨rfl, rfl, rfl⟩ := h1
    exact ⟨by simp, .inl ⟨by simp, .inl (by simp)⟩⟩
  · simp at h1
    obtain ⟨rfl, rfl, rfl⟩ := h1
    exact ⟨by simp, .inl ⟨by simp, .inr ⟨_, _, by simp; exact ⟨rfl, rfl⟩⟩⟩⟩
  · simp only [Value.slice.injEq] at hv
    obtain ⟨rfl, rfl, rfl⟩ := hv
    refine ⟨by rw [List.length_drop]; omega, .inr ⟨b, o + k, c - k, by rw [List.length_drop]; simp [add_any], hlt, fun j hj => ?_⟩⟩
    rw [List.length_drop] at hj
    have := hc (k + j) (by omega)
    rw [show o + k + j = o + (k + j) by omega, this]
    congr 2
    rw [List.getD_eq_getElem?_getD, List.getD_eq_getElem?_getD, List.getElem?_drop]
theorem ints_take {w : World} {a : Option Addr} {n c k : Nat} {l : List Int} (h : Ints w .u8 (.slice a n c) l) (hk : k ≤ n) : Ints w .u8 (.slice a k c) (l.take k) := by
  obtain ⟨h0, ⟨rfl, h1 | ⟨ad, cap, h1⟩⟩ | ⟨b, o, cap, hv, hlt, hc⟩⟩ := h
  · simp at h1
    obtain ⟨rfl, rfl, rfl⟩ := h1
    obtain rfl : k = 0 := by omega
    exact ⟨by simp, .inl ⟨by simp, .inl rfl⟩⟩
  · simp at h1
    obtain ⟨rfl, rfl, rfl⟩ := h1
    obtain rfl : k = 0 := by omega
    exact ⟨by simp, .inl ⟨by simp, .inr ⟨_, _, rfl⟩⟩⟩
  · simp only [Value.slice.injEq] at hv
    obtain ⟨rfl, rfl, rfl⟩ := hv
    have hl : (l.take k).length = k := by rw [List.length_take]; omega
    refine ⟨by omega, .inr ⟨b, o, c, by rw [hl], hlt, fun j hj => ?_⟩⟩
    rw [hl] at hj
    rw [hc j (by omega), List.getD_eq_getElem?_getD, List.getD_eq_getElem?_getD, List.getElem?_take_of_lt hj]
theorem ints_no {w : World} {a : Option Addr} {c : Nat} (ha : a = none → c = 0) : Ints w .u8 (.slice a 0 c) [] := by
  cases a with
  | none => rw [ha rfl]; exact Ints.nil _ _
  | some a => exact ⟨by simp, .inl ⟨rfl, .inr ⟨a, c, rfl⟩⟩⟩
theorem drop_ne {w : World} {l : List Int} {a : Option Addr} {n c k p : Nat} (hI : Ints w .u8 (.slice a n c) l) (hn : ∀ b o n' c', Value.slice a n c = .slice (some ⟨b, o, none⟩) n' c' → n' ≠ 0 → b = p) : ∀ b o n' c', Value.slice (a.map fun x => x.add k) (n - k) (c - k) = .slice (some ⟨b, o, none⟩) n' c' → n' ≠ 0 → b = p := by
  intro b o n' c' e h0
  simp only [Value.slice.injEq] at e
  obtain ⟨e1, e2, e3⟩ := e
  obtain ⟨_, ⟨rfl, h1 | ⟨ad, cap, h1⟩⟩ | ⟨b', o', cap, hv, hlt, hc⟩⟩ := hI
  · simp at h1; omega
  · simp at h1; omega
  · simp only [Value.slice.injEq] at hv
    obtain ⟨rfl, rfl, rfl⟩ := hv
    have e4 : b' = b := by
      simp only [Option.map_some, Option.some.injEq, add_any] at e1
      cases e1; rfl
    rw [← e4]
    exact hn b' o' _ _ rfl (by omega)
set_option maxRecDepth 100000 in
set_option maxHeartbeats 2000000 in
theorem clone_any (v : Value) (l : List Int) (w : World) (hl : Ints w .u8 v l) : Calls Tryd.prog 38 #[v] w fun e w' => ∃ v', e = .returned v' ∧ Own w' w.heap.size v' l ∧ Below w.heap.size w w' := by
  obtain ⟨a, c, rfl, h0⟩ := ints_ends hl
  have h63 := hl.1
  obtain ⟨iu, hiu, hzu, hsu, hbu⟩ := parts_u8
  cases a with
  | none =>
    obtain ⟨rfl, rfl⟩ := h0 rfl
    have hq : ∀ w : World, (binOp .eql 30 (.slice none 0 0) (.slice none 0 0)).run Tryd.prog w = .ok (.bool true) w := fun w => Lib.run_eql_slice_nil w _ _ none 0 0 0 0 Tryd.underlying30
    go_enter Tryd.func38, Tryd.ntmps38
    go_wp2_with fail
    go_ret
    exact ⟨_, rfl, World.ownsRow_nil _ _ _ _, Below.refl _ _⟩
  | some ad =>
    have hown : (w.alloc (.cells #[] 5)).ownsRow w.heap.size 5 1 (.slice (some ⟨w.heap.size, 0, none⟩) 0 0) 0 [] := World.ownsRow_made w #[] 0 (Nat.le_refl _) (by unfold maxLen; omega) (by simp)
    have hbX : Below w.heap.size w (w.alloc (.cells #[] 5)) := (Below.refl _ _).alloc (Nat.le_refl _) _
    have hIX := hl.below hbX
    have hq : ∀ w : World, (binOp .eql 30 (.slice (some ad) l.length c) (.slice none 0 0)).run Tryd.prog w = .ok (.bool false) w := fun w => Lib.run_eql_slice_nil w _ _ (some ad) _ _ 0 0 Tryd.underlying30
    go_enter Tryd.func38, Tryd.ntmps38
    go_wp2_with (first | (at_builtin; refine wpList_append_ints _ (by rfl) _ _ 30 rfl w.heap.size 5 iu (.int .u8 0) 1 Tryd.underlying30 hiu hzu hsu hbu rfl .u8 _ 0 [] rfl hown _ l rfl hIX (by unfold maxLen; omega) (by omega) (by simp) ?_; intro v' w2 hown2 hb2))
    go_ret
    rw [Nat.zero_add, List.nil_append] at hown2
    exact ⟨v', rfl, hown2, hbX.trans hb2⟩
/-- a reader: what is left, the error -/
def RdIs (b0 : Nat) (w : World) (p : Nat) (l : List Int) (e : Int) : Prop := b0 ≠ p ∧ ∃ v, Blk w p 92 #[v, .int .i64 e] ∧ Ints w .u8 v l ∧ CapOk v ∧ ∀ b o n c, v = .slice (some ⟨b, o, none⟩) n c → n ≠ 0 → b = b0
theorem rd_cells {w : World} {p : Nat} {v : Value} {e : Int} (h : Blk w p 92 #[v, .int .i64 e]) : w.cell? ⟨p, 0, none⟩ = some v ∧ w.cell? ⟨p, 1, none⟩ = some (.int .i64 e) ∧ w.frozen? ⟨p, 0, none⟩ = false ∧ w.frozen? ⟨p, 1, none⟩ = false :=
  ⟨h.cell 0, h.cell 1, h.free 0, h.free 1⟩
theorem rd_set0 {w : World} {p b0 : Nat} (h0 : b0 ≠ p) {v v' : Value} {e : Int} {l : List Int} (h : Blk w p 92 #[v, .int .i64 e]) (hI : Ints w .u8 v' l) (hC : CapOk v') (hn : ∀ b o n c, v' = .slice (some ⟨b, o, none⟩) n c → n ≠ 0 → b = b0) :
    RdIs b0 (w.setCell ⟨p, 0, none⟩ v') p l e ∧ F.Turn (fun k => k = p) w (w.setCell ⟨p, 0, none⟩ v') := by
  have hK : F.Turn (fun k => k = p) w (w.setCell ⟨p, 0, none⟩ v') := turn_setW w p v'
  exact ⟨⟨h0, v', h.set 0 v', ints_kept hI hK (fun b o n c e h1 => by rw [hn b o n c e h1]; exact h0), hC, hn⟩, hK⟩
theorem rd_set1 {w : World} {p b0 : Nat} (h0 : b0 ≠ p) {v : Value} {e e' : Int} {l : List Int} (h : Blk w p 92 #[v, .int .i64 e]) (hI : Ints w .u8 v l) (hC : CapOk v) (hn : ∀ b o n c, v = .slice (some ⟨b, o, none⟩) n c → n ≠ 0 → b = b0) :
    RdIs b0 (w.setCell ⟨p, 1, none⟩ (.int .i64 e')) p l e' ∧ F.Turn (fun k => k = p) w (w.setCell ⟨p, 1, none⟩ (.int .i64 e')) := by
  have hK : F.Turn (fun k => k = p) w (w.setCell ⟨p, 1, none⟩ (.int .i64 e')) := turn_setW w p _
  exact ⟨⟨h0, v, h.set 1 _, ints_kept hI hK (fun b o n c e h1 => by rw [hn b o n c e h1]; exact h0), hC, hn⟩, hK⟩
set_option maxRecDepth 100000 in
set_option maxHeartbeats 2000000 in
theorem read_any (v : Value) (l : List Int) (w : World) (hl : Ints w .u8 v l) : Calls Tryd.prog 20 #[v] w fun e w' => ∃ p b0, e = .returned (.pointer (some ⟨p, 0, none⟩)) ∧ w.heap.size ≤ p ∧ p < w'.heap.size ∧ RdIs b0 w' p l 0 ∧ (l ≠ [] → w.heap.size ≤ b0 ∧ b0 < w'.heap.size) ∧ Below w.heap.size w w' := by
  obtain ⟨a, c, rfl, h0⟩ := ints_ends hl
  have HL := Lib.hid hl
  clear hl h0
  go_enter Tryd.func20, Tryd.ntmps20
  go_wp2_with fail
  refine (clone_any _ l w HL.out).mono ?_
  rintro e w1 ⟨v1, rfl, hO, hb1⟩
  have hI := Ints.own hO HL.out.1
  obtain ⟨a1, c1, rfl⟩ := hI.form
  have hs := hb1.size
  go_wp2_with fail
  go_ret
  have hb2 : Below w1.heap.size w1 (w1.alloc (.cells #[.slice a1 l.length c1, .int .i64 0] 92)) := (Below.refl _ _).alloc (Nat.le_refl _) _
  have hblk : ∃ b0, b0 ≠ w1.heap.size ∧ (l ≠ [] → w.heap.size ≤ b0 ∧ b0 < w1.heap.size) ∧ ∀ b o n c, Value.slice a1 l.length c1 = .slice (some ⟨b, o, none⟩) n c → n ≠ 0 → b = b0 := by
    rcases hO.2 with ⟨e, h0⟩ | ⟨g, cap, cur, e, h1, h2, _⟩
    · refine ⟨w1.heap.size + 1, by omega, fun hne => absurd (List.eq_nil_of_length_eq_zero h0) hne, fun b o n c e2 hn => ?_⟩
      simp at e2
      omega
    · have hgl := Blk.lt h2
      refine ⟨g, by omega, fun _ => ⟨h1, hgl⟩, fun b o n c e2 hn => ?_⟩
      rw [e] at e2
      simp only [Value.slice.injEq, Option.some.injEq, Addr.mk.injEq] at e2
      exact e2.1.1.symm
  obtain ⟨b0, g1, g2, g3⟩ := hblk
  refine ⟨w1.heap.size, b0, rfl, hs, by simp, ⟨g1, _, Blk.alloc_new _ _ _, hI.below hb2, own_capOk hO, g3⟩, fun hne => ⟨(g2 hne).1, by have := (g2 hne).2; simp; omega⟩, hb1.trans (hb2.mono hs)⟩
set_option maxRecDepth 100000 in
set_option maxHeartbeats 2000000 in
theorem err_any (b0 p : Nat) (l : List Int) (x : Int) (w : World) (h : RdIs b0 w p l x) : Calls Tryd.prog 22 #[.pointer (some ⟨p, 0, none⟩)] w fun e w' => e = .returned (.int .i64 x) ∧ w' = w := by
  obtain ⟨hb0, v, hB, hI, hC, hn⟩ := h
  obtain ⟨c0, c1, c2, c3⟩ := rd_cells hB
  go_enter Tryd.func22, Tryd.ntmps22
  go_wp2_with fail
  go_ret
  exact ⟨rfl, rfl⟩
/-- a number read off: it, what is left, the error -/
def uintF (most : Int) (l : List Int) (e : Int) : Int × List Int × Int :=
  if e ≠ 0 then (0, l, e) else
  let r := numF 0 0 l
  if r.2.2 ≠ 0 then (0, l, r.2.2) else if most < r.1 then (0, l, 22) else (r.1, l.drop r.2.1, 0)
set_option maxRecDepth 100000 in
set_option maxHeartbeats 2000000 in
theorem uint_any (b0 p : Nat) (l : List Int) (x most : Int) (w : World) (h : RdIs b0 w p l x) (hB : ∀ x ∈ l, 0 ≤ x ∧ x ≤ 255) (hm : 0 ≤ most) :
    Calls Tryd.prog 21 #[.pointer (some ⟨p, 0, none⟩), .int .u64 most] w fun e w' => e = .returned (.int .u64 (uintF most l x).1) ∧ RdIs b0 w' p (uintF most l x).2.1 (uintF most l x).2.2 ∧ F.Turn (fun k => k = p) w w' := by
  obtain ⟨hb0, v, hBl, hI, hC, hn⟩ := h
  obtain ⟨c0, c1, c2, c3⟩ := rd_cells hBl
  by_cases hx : x = 0
  · subst hx
    obtain ⟨va, vc, rfl, hz⟩ := ints_ends hI
    have hk := numF_k l 0 0
    have hnl := numF_nil (l := l)
    have hnum := number_any _ l w hI hB
    have hI1 := hI.1
    obtain ⟨r, hr⟩ : ∃ r, numF 0 0 l = r := ⟨_, rfl⟩
    unfold uintF
    simp only [hr] at hk hnl hnum ⊢
    obtain ⟨n, k, q⟩ := r
    dsimp only at hk hnl hnum ⊢
    have HI := Lib.hid hI
    have HNL := Lib.hid hnl
    have HZ := Lib.hid hz
    clear hI hnl hz hr
    go_enter Tryd.func21, Tryd.ntmps21
    go_wp2_with fail
    refine hnum.mono ?_
    rintro e w1 ⟨rfl, rfl⟩
    by_cases hq : q = 0
    · by_cases hgt : most < (n : Int)
      · go_wp2_with fail
        go_ret
        exact ⟨rfl, rd_set1 hb0 hBl HI.out hC hn⟩
      · have hv : vc = k → l.drop k = [] := fun e => List.drop_eq_nil_of_le (by have := hC _ _ _ rfl; omega)
        have HV := Lib.hid hv
        clear hv
        go_wp2_with fail
        · go_ret
          have hvk : vc = k := by assumption
          rw [HV.out hvk]
          have hlk : l.length - k = 0 := by have := hC _ _ _ rfl; omega
          rw [hlk]
          exact ⟨rfl, rd_set0 hb0 hBl (ints_no (fun _ => rfl)) (fun a n' c' e => by simp at e; omega) (fun b o n' c' e h0 => by simp at e; omega)⟩
        · go_ret
          exact ⟨rfl, rd_set0 hb0 hBl (ints_drop HI.out (by omega)) (fun a n' c' e => by simp at e; have := hC _ _ _ rfl; omega) (drop_ne HI.out hn)⟩
    · have hq2 : (q == 0) = false := by simpa using hq
      have hq3 : (q != 0) = true := by simpa using hq
      go_wp2_with fail
      go_ret
      exact ⟨rfl, rd_set1 hb0 hBl HI.out hC hn⟩
  · have hx2 : (x != 0) = true := by simpa using hx
    unfold uintF
    rw [if_pos hx]
    go_enter Tryd.func21, Tryd.ntmps21
    go_wp2_with fail
    go_ret
    exact ⟨rfl, ⟨hb0, v, hBl, hI, hC, hn⟩, F.Turn.refl _ _⟩
theorem pow7 {i : Nat} (hi : i ≤ 9) : (2 : Nat) ^ (7 * (i + 1)) = 2 ^ (7 * i) * 128 := by rw [Nat.mul_add, Nat.pow_add]
theorem numF_put : ∀ (f n i acc : Nat) (t : List Int), n ≤ f → i ≤ 9 → n * 2 ^ (7 * i) < 18446744073709551616 → (i = 0 ∨ 0 < n) → numF i acc (putU n ++ t) = (acc + n * 2 ^ (7 * i), i + (putU n).length, 0)
  | f, n, i, acc, t, hf, hi, hn, h0 => by
    by_cases hb : 128 ≤ n
    · have hi9 : i ≤ 8 := by
        have hc : i = 0 ∨ i = 1 ∨ i = 2 ∨ i = 3 ∨ i = 4 ∨ i = 5 ∨ i = 6 ∨ i = 7 ∨ i = 8 ∨ i = 9 := by omega
        rcases hc with rfl | rfl | rfl | rfl | rfl | rfl | rfl | rfl | rfl | rfl <;> simp at hn ⊢
        omega
      obtain ⟨P, hP⟩ : ∃ P, (2 : Nat) ^ (7 * i) = P := ⟨_, rfl⟩
      have hp1 : (2 : Nat) ^ (7 * (i + 1)) = P * 128 := by rw [pow7 (by omega), hP]
      have hdm : n = 128 * (n / 128) + n % 128 := by omega
      have hmul : n * P = 128 * (n / 128 * P) + n % 128 * P := by
        have : n * P = (128 * (n / 128) + n % 128) * P := by rw [← hdm]
        rw [this, Nat.add_mul, Nat.mul_assoc]
      rw [hP] at hn ⊢
      have ih := numF_put (f - 1) (n / 128) (i + 1) (acc + n % 128 * P) t (by omega) (by omega) (by
        rw [hp1]
        have : n / 128 * (P * 128) = 128 * (n / 128 * P) := by rw [Nat.mul_comm P 128, ← Nat.mul_assoc, Nat.mul_comm (n / 128) 128, Nat.mul_assoc]
        omega) (.inr (by omega))
      rw [putU_big hb, List.cons_append, numF]
      rw [if_neg (by omega), if_pos (by omega)]
      have e1 : (((n % 128 + 128 : Nat) : Int).toNat % 128) = n % 128 := by omega
      rw [e1, hP, ih, hp1]
      have e2 : n / 128 * (P * 128) = 128 * (n / 128 * P) := by rw [Nat.mul_comm P 128, ← Nat.mul_assoc, Nat.mul_comm (n / 128) 128, Nat.mul_assoc]
      rw [e2, List.length_cons]
      refine Prod.ext ?_ (Prod.ext ?_ rfl)
      · simp only; omega
      · simp only; omega
    · rw [putU_small (by omega), List.cons_append, List.nil_append, numF]
      have h9 : ¬ (i = 9 ∧ (1 : Int) < (n : Int)) := by
        rintro ⟨rfl, h1⟩
        simp at hn
        omega
      rw [if_neg h9, if_neg (by omega), if_neg (by omega)]
      have e1 : ((n : Int).toNat % 128) = n := by omega
      rw [e1]
      rfl
  termination_by f n => n
  decreasing_by omega
theorem uintF_put {most : Int} {n : Nat} {t : List Int} (hn : n < 18446744073709551616) (hm : (n : Int) ≤ most) : uintF most (putU n ++ t) 0 = ((n : Int), t, 0) := by
  have h := numF_put n n 0 0 t (Nat.le_refl _) (by omega) (by simpa using hn) (.inl rfl)
  unfold uintF
  rw [if_neg (by decide)]
  simp only [h]
  rw [if_neg (by decide)]
  simp only [Nat.mul_zero, Nat.pow_zero, Nat.mul_one, Nat.zero_add]
  rw [if_neg (by omega)]
  simp
end Go.Proofs.YtkibkbbjpgomlaaDoor.W
