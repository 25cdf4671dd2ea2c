/-
  The walks of the reference's Far and Distance.
-/
import Derived.Test.YtkgmikglifmenaaDoorEdRows
namespace Go.Proofs.YtkgmikglifmenaaDoor.E
open Go.RowKit
open LM EM Aid L
set_option linter.unusedSimpArgs false
set_option linter.unusedVariables false

/-- a row of distances, up to a number -/
def rowD (l m : List Int) (i n : Nat) : List Int := (List.range n).map fun j => (D l m i j : Int)
theorem rowD_len (l m : List Int) (i n : Nat) : (rowD l m i n).length = n := by simp [rowD]
theorem rowD_next (l m : List Int) (i n : Nat) : rowD l m i (n + 1) = rowD l m i n ++ [(D l m i n : Int)] := by simp [rowD, List.range_succ]
theorem rowD_at (l m : List Int) (i n j : Nat) (h : j < n) : (rowD l m i n).getD j 0 = (D l m i j : Int) := by simp [rowD, List.getD_eq_getElem?_getD, h]

theorem step_far {l m : List Int} {i j d1 d2 d3 : Nat} {x y : Int} (hi : 1 ≤ i) (hj : 1 ≤ j) (hl : i ≤ l.length) (hm : j ≤ m.length) (hx : l.getD (i - 1) 0 = x) (hy : m.getD (j - 1) 0 = y)
    (h1 : D l m (i - 1) (j - 1) = d1) (h2 : D l m (i - 1) j = d2) (h3 : D l m i (j - 1) = d3) : D l m i j = min (min (d3 + 1) (d2 + 1)) (d1 + if x = y then 0 else 1) := by
  have e1 : l[i - 1]'(by omega) = x := by rw [← hx]; simp [List.getD_eq_getElem?_getD, show i - 1 < l.length by omega]
  have e2 : m[j - 1]'(by omega) = y := by rw [← hy]; simp [List.getD_eq_getElem?_getD, show j - 1 < m.length by omega]
  have s := D_step l m (i := i - 1) (j := j - 1) (by omega) (by omega)
  rw [show i - 1 + 1 = i from by omega, show j - 1 + 1 = j from by omega, e1, e2, h1, h2, h3] at s
  exact s

/-- the row that is known -/
def HasRow (w : World) (l m : List Int) (i n : Nat) (v : Value) (wr : World) : Prop := Below w.heap.size w wr ∧ wr.ownsRow w.heap.size 3 1 v n ((rowD l m i n).map (.int .i64))
theorem HasRow.ints {w wr : World} {l m : List Int} {i n : Nat} {v : Value} (h : HasRow w l m i n v wr) (hn : n ≤ 1025) : Ints wr .i64 v (rowD l m i n) := by
  have := h.2
  rw [← rowD_len l m i n] at this
  simp only [rowD_len] at this
  exact Ints.own (by rw [rowD_len]; exact this) (by rw [rowD_len]; omega)

theorem owns_one (w : World) (u : Value) (e : TypeId) : (w.alloc (.cells #[u] e)).ownsRow w.heap.size e 1 (.slice (some ⟨w.heap.size, 0, none⟩) 1 1) 1 [u] :=
  ⟨rfl, .inr ⟨w.heap.size, 1, #[u], rfl, Nat.le_refl _, heap_alloc_new w _, Nat.le_refl _, by decide, rfl, rfl⟩⟩
/-- the row that is being made -/
def NextRow (wr : World) (l m : List Int) (i n : Nat) (v : Value) (wq : World) : Prop := Below wr.heap.size wr wq ∧ wq.ownsRow wr.heap.size 3 1 v n ((rowD l m i n).map (.int .i64))
theorem NextRow.start {wr : World} {l m : List Int} {i : Nat} (h : i + 1 ≤ l.length) : NextRow wr l m (i + 1) (0 + 1) (.slice (some ⟨wr.heap.size, 0, none⟩) 1 1) (wr.alloc (.cells #[.int .i64 ((i : Int) + 1)] 3)) := by
  refine ⟨(Below.refl _ _).alloc (Nat.le_refl _) _, ?_⟩
  have : (rowD l m (i + 1) (0 + 1)).map (Value.int .i64) = [.int .i64 ((i : Int) + 1)] := by simp [rowD, D_zero_right l m h]
  rw [this]
  exact owns_one _ _ _

set_option maxRecDepth 100000 in
set_option maxHeartbeats 2000000 in
theorem far_any (v1 v2 : Value) (l m : List Int) (w : World) (h1 : Ints w .i32 v1 l) (h2 : Ints w .i32 v2 m) (hl : l.length ≤ 1024) (hm : m.length ≤ 1024) :
    Calls Tryd.prog 11 #[v1, v2] w fun e w' => e = .returned (.int .i64 (lv l m : Nat)) ∧ Below w.heap.size w w' := by
  obtain ⟨i0, hi, hz0, hz1, hz2⟩ := info_parts info_int
  have H1 := Lib.hid h1
  have H2 := Lib.hid h2
  clear h1 h2
  obtain ⟨a1, c1, rfl⟩ := Ints.form H1.out
  obtain ⟨a2, c2, rfl⟩ := Ints.form H2.out
  go_enter Tryd.func11, Tryd.ntmps11
  go_wp2_with fail
  go_loopw [6, 5] (fun x rv wr => ∃ j : Nat, x = .int .i64 j ∧ j ≤ m.length + 1 ∧ HasRow w l m 0 j rv wr) (fun x _ _ => m.length + 1 - (intOf x).toNat)
  case atStart => exact ⟨0, rfl, Nat.zero_le _, Below.refl _ _, World.ownsRow_nil _ _ _ _⟩
  case round =>
    obtain ⟨j, rfl, hj, hR⟩ := hrel
    by_cases hlast : (j : Int) ≤ (m.length : Int)
    · obtain ⟨hb, hown⟩ := id hR
      have hbs := hb.size
      go_wp2_with (at_builtin; refine wpList_push _ (by rfl) _ _ 40 rfl w.heap.size 3 i0 (.int .i64 0) 8 Tryd.underlying40 hi hz0 hz1 hz2 rfl u5 j _ rfl (hown.alloc _) wr.heap.size (.int .i64 j) rfl (cell_new _ _ _ _ rfl) rfl (by unfold maxLen; omega) (by omega) (by simp; omega) ?_; intro v' w2 hown2 hb2)
      refine ⟨⟨j + 1, by go_num, by omega, hb.trans (((Below.refl _ _).alloc hbs _).trans hb2), ?_⟩, by simp [intOf]; omega⟩
      rw [rowD_next, D_zero_left _ _ (by omega)]
      simpa using hown2
    · have hje : j = m.length + 1 := by omega
      subst hje
      go_wp2_with fail
      go_loopw [7, 5] (fun x rv wr => ∃ i : Nat, x = .int .i64 ((i : Int) + 1) ∧ i ≤ l.length ∧ HasRow w l m i (m.length + 1) rv wr) (fun x _ _ => l.length + 1 - (intOf x).toNat)
      case atStart => exact ⟨0, by simp, Nat.zero_le _, hR⟩
      case round =>
        clear hR
        obtain ⟨wo, rfl⟩ : ∃ wo : World, wo = wr := ⟨_, rfl⟩
        obtain ⟨i, rfl, hile, hR⟩ := hrel
        have hI := hR.ints (by omega)
        obtain ⟨hb, hown⟩ := id hR
        have hbs := hb.size
        by_cases hilast : (i : Int) + 1 ≤ (l.length : Int)
        · obtain ⟨ar, cr, rfl⟩ : ∃ a c, u5 = .slice a (m.length + 1) c := by obtain ⟨a, c, hv⟩ := Ints.form hI; rw [rowD_len] at hv; exact ⟨a, c, hv⟩
          have HI := Lib.hid hI
          have HR := Lib.hid hR
          clear hI hR hown
          go_wp2_with fail
          go_loopw [9, 8] (fun y nv wq => ∃ j : Nat, y = .int .i64 ((j : Int) + 1) ∧ j ≤ m.length ∧ NextRow wo l m (i + 1) (j + 1) nv wq) (fun y _ _ => m.length + 1 - (intOf y).toNat)
          case atStart => exact ⟨0, by simp, Nat.zero_le _, NextRow.start (by omega)⟩
          case round =>
            obtain ⟨j, rfl, hjle, hN⟩ := hrel
            by_cases hjlast : (j : Int) + 1 ≤ (m.length : Int)
            · obtain ⟨hb2, hown2⟩ := id hN
              obtain ⟨g, cap, rfl, hgB, _, hcell⟩ := owns_at hown2 (by omega)
              obtain ⟨x, hx⟩ : ∃ x, l.getD i 0 = x := ⟨_, rfl⟩
              obtain ⟨y, hy⟩ : ∃ y, m.getD j 0 = y := ⟨_, rfl⟩
              obtain ⟨d1, hd1⟩ : ∃ d1, D l m i j = d1 := ⟨_, rfl⟩
              obtain ⟨d2, hd2⟩ : ∃ d2, D l m i (j + 1) = d2 := ⟨_, rfl⟩
              obtain ⟨d3, hd3⟩ : ∃ d3, D l m (i + 1) j = d3 := ⟨_, rfl⟩
              have hb0 : Below w.heap.size w wr := hb.trans (hb2.mono hbs)
              have hbs2 := hb2.size
              obtain ⟨b1, o1, rfl, _, cx⟩ := Ints.at_ (H1.out.below hb0) (k := i) (by omega) hx
              obtain ⟨b2, o2, rfl, _, cy⟩ := Ints.at_ (H2.out.below hb0) (k := j) (by omega) hy
              obtain ⟨b3, o3, rfl, _, c1⟩ := Ints.at_ (HI.out.below hb2) (k := j) (by rw [rowD_len]; omega) (rowD_at l m i (m.length + 1) j (by omega))
              obtain ⟨b3', o3', he, _, c2⟩ := Ints.at_ (HI.out.below hb2) (k := j + 1) (by rw [rowD_len]; omega) (rowD_at l m i (m.length + 1) (j + 1) (by omega))
              simp only [Option.some.injEq, Addr.mk.injEq, and_true] at he
              obtain ⟨rfl, rfl⟩ := he
              have c3 := hcell j (.int .i64 (d3 : Int)) (by rw [List.getElem?_map, List.getElem?_eq_getElem (by rw [rowD_len]; omega)]; simp [rowD, hd3])
              rw [hd1] at c1
              rw [hd2] at c2
              have q1 : d1 ≤ 1024 := by have := D_le l m (i := i) (j := j) (by omega) (by omega); omega
              have q2 : d2 ≤ 1024 := by have := D_le l m (i := i) (j := j + 1) (by omega) (by omega); omega
              have q3 : d3 ≤ 1024 := by have := D_le l m (i := i + 1) (j := j) (by omega) (by omega); omega
              obtain ⟨p, hp⟩ : ∃ p, d3 + 1 = p := ⟨_, rfl⟩
              obtain ⟨o, ho⟩ : ∃ o, d2 + 1 = o := ⟨_, rfl⟩
              have hp' : (d3 : Int) + 1 = (p : Int) := by omega
              have ho' : (d2 : Int) + 1 = (o : Int) := by omega
              have hst := step_far (l := l) (m := m) (i := i + 1) (j := j + 1) (by omega) (by omega) (by omega) (by omega) (by simpa using hx) (by simpa using hy) (by simpa using hd1) (by simpa using hd2) (by simpa using hd3)
              rw [hp, ho] at hst
              by_cases hxy : x = y
              · have hxy' : (x == y) = true := by rw [beq_iff_eq]; exact hxy
                obtain ⟨mn, hmn⟩ : ∃ mn, min (min p o) d1 = mn := ⟨_, rfl⟩
                have hM3 : (if (d1 : Int) < (if o < p then (o : Int) else (p : Int)) then (d1 : Int) else if o < p then (o : Int) else (p : Int)) = (mn : Int) := (min3 p o d1).trans (by rw [hmn])
                have HD : Hid (D l m (i + 1) (j + 1) = mn) := by rw [hst, if_pos hxy]; exact hmn
                have hown3 := Lib.hid hown2
                clear hcell hx hy hd1 hd2 hd3 hp ho hst hmn hxy hown2
                go_wp2_with fail
                go_quiet (fail)
                go_wp2_with (at_builtin; refine wpList_push _ (by rfl) _ _ 40 rfl wo.heap.size 3 i0 (.int .i64 0) 8 Tryd.underlying40 hi hz0 hz1 hz2 rfl _ (j + 1) _ rfl ((owns_below hown3.out (below_drewN (Below.refl _ _) nq)).alloc _) wr.heap.size (.int .i64 mn) rfl (cell_new _ _ _ _ rfl) rfl (by unfold maxLen; omega) (by omega) (by simp; omega) ?_; intro v' w2 hown4 hb4)
                refine ⟨⟨j + 1, by go_num, by omega, hb2.trans (((below_drewN (Below.refl _ _) nq).alloc (by simpa using hbs2) _).trans hb4), ?_⟩, by simp [intOf]; omega⟩
                rw [rowD_next, HD.out]
                simpa using hown4
              · have hxy' : (x == y) = false := by rw [beq_eq_false_iff_ne]; exact hxy
                obtain ⟨q, hq⟩ : ∃ q, d1 + 1 = q := ⟨_, rfl⟩
                have hq' : (d1 : Int) + 1 = (q : Int) := by omega
                obtain ⟨mn, hmn⟩ : ∃ mn, min (min p o) q = mn := ⟨_, rfl⟩
                have hM3 : (if (q : Int) < (if o < p then (o : Int) else (p : Int)) then (q : Int) else if o < p then (o : Int) else (p : Int)) = (mn : Int) := (min3 p o q).trans (by rw [hmn])
                have hM4 : (if q < (if o < p then o else p) then q else if o < p then o else p) = mn := by rw [← hmn]; (repeat' split) <;> omega
                have HD : Hid (D l m (i + 1) (j + 1) = mn) := by rw [hst, if_neg hxy, hq]; exact hmn
                have hown3 := Lib.hid hown2
                clear hcell hx hy hd1 hd2 hd3 hp ho hst hmn hxy hown2 hq
                go_wp2_with fail
                go_quiet (fail)
                go_wp2_with (at_builtin; refine wpList_push _ (by rfl) _ _ 40 rfl wo.heap.size 3 i0 (.int .i64 0) 8 Tryd.underlying40 hi hz0 hz1 hz2 rfl _ (j + 1) _ rfl ((owns_below hown3.out (below_drewN (Below.refl _ _) nq)).alloc _) wr.heap.size (.int .i64 mn) rfl (cell_new _ _ _ _ rfl) rfl (by unfold maxLen; omega) (by omega) (by simp; omega) ?_; intro v' w2 hown4 hb4)
                refine ⟨⟨j + 1, by go_num, by omega, hb2.trans (((below_drewN (Below.refl _ _) nq).alloc (by simpa using hbs2) _).trans hb4), ?_⟩, by simp [intOf]; omega⟩
                rw [rowD_next, HD.out]
                simpa using hown4
            · have hje : j = m.length := by omega
              subst hje
              obtain ⟨hb2, hown2⟩ := id hN
              have HX : Hid (HasRow w l m (i + 1) (m.length + 1) u8 wr) := ⟨hb.trans (hb2.mono hbs), owns_base_le hown2 hbs⟩
              clear hown2 hN
              go_wp2_with fail
              exact ⟨⟨i + 1, by go_num, by omega, HX.out⟩, by simp [intOf]; omega⟩
        · have hie : i = l.length := by omega
          subst hie
          obtain ⟨a, c, hv⟩ := Ints.form hI
          subst hv
          obtain ⟨b3, o3, rfl, _, cl⟩ := Ints.at_ hI (k := m.length) (by rw [rowD_len]; omega) (rowD_at l m l.length (m.length + 1) m.length (by omega))
          rw [D_full] at cl
          have hL : (rowD l m l.length (m.length + 1)).length = m.length + 1 := rowD_len _ _ _ _
          have HB := Lib.hid hb
          clear hI hR hown hb
          go_wp2_with fail
          go_ret
          exact ⟨rfl, HB.out⟩
end Go.Proofs.YtkgmikglifmenaaDoor.E
