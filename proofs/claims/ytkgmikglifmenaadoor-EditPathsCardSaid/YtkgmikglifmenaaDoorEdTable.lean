/-
  The walk of edit.table: its rows hold the distances of all beginnings.
-/
import Derived.Test.YtkgmikglifmenaaDoorLetSame
import Derived.Test.YtkgmikglifmenaaDoorEdRows
namespace Go.Proofs.YtkgmikglifmenaaDoor.E
open Go.RowKit
open EM Aid L
set_option linter.unusedSimpArgs false
set_option linter.unusedVariables false

theorem info_row : (Tryd.prog.info? 40).map (fun i => (i.zero, i.size, i.bytes)) = some (some (.slice none 0 0), 1, 24) := by kernel_rfl

/-- the first rows hold the distances -/
def Filled (cs : Array Value) (l m : List Int) (i : Nat) : Prop := ∀ p q, p < i → q < m.length + 1 → cs[p * (m.length + 1) + q]? = some (.int .i64 (D l m p q))
/-- so does the first part of the next one -/
def Part (cs : Array Value) (l m : List Int) (i j : Nat) : Prop := Filled cs l m i ∧ ∀ q, q < j → cs[i * (m.length + 1) + q]? = some (.int .i64 (D l m i q))
theorem Part.zero {cs : Array Value} {l m : List Int} {i : Nat} (h : Filled cs l m i) : Part cs l m i 0 := ⟨h, fun q hq => by omega⟩
theorem row_lt {p i M q : Nat} (h : p < i) (hq : q < M) : p * M + q < i * M := by
  have : (p + 1) * M ≤ i * M := Nat.mul_le_mul_right _ (by omega)
  rw [Nat.add_mul] at this; omega
theorem Part.next {cs : Array Value} {l m : List Int} {i j N : Nat} (h : Part cs l m i j) (hs : cs.size = N) (hN : i * (m.length + 1) + (m.length + 1) ≤ N) (hj : j < m.length + 1) {x : Int} (hx : x = D l m i j) :
    Part (cs.setIfInBounds (i * (m.length + 1) + j) (.int .i64 x)) l m i (j + 1) := by
  subst hx
  refine ⟨fun p q hp hq => ?_, fun q hq => ?_⟩
  · rw [Array.getElem?_setIfInBounds_ne (by have := row_lt hp hq; omega)]
    exact h.1 p q hp hq
  · by_cases e : q = j
    · subst e
      rw [Array.getElem?_setIfInBounds_self_of_lt (by omega)]
    · rw [Array.getElem?_setIfInBounds_ne (by omega)]
      exact h.2 q (by omega)
theorem Part.full {cs : Array Value} {l m : List Int} {i : Nat} (h : Part cs l m i (m.length + 1)) : Filled cs l m (i + 1) := by
  intro p q hp hq
  by_cases e : p = i
  · subst e; exact h.2 q hq
  · exact h.1 p q (by omega) hq

/-- the rows: pieces of one block -/
def rowsV (A M n : Nat) : List Value := (List.range n).map fun p => .slice (some ⟨A, p * M, none⟩) M M
theorem rowsV_len (A M n : Nat) : (rowsV A M n).length = n := by simp [rowsV]
theorem rowsV_next (A M n : Nat) : rowsV A M (n + 1) = rowsV A M n ++ [.slice (some ⟨A, n * M, none⟩) M M] := by simp [rowsV, List.range_succ]
theorem rowsV_at (A M n p : Nat) (h : p < n) : (rowsV A M n)[p]? = some (.slice (some ⟨A, p * M, none⟩) M M) := by simp [rowsV, h]

/-- what table hands back: rows that hold the distances -/
def Rows2 (W : World) (l m : List Int) (e : Ending) (w' : World) : Prop := Below W.heap.size W w' ∧ ∃ v cs A, e = .returned v ∧ W.heap.size ≤ A ∧ Blk w' A 3 cs ∧ Filled cs l m (l.length + 1) ∧
  w'.ownsRow W.heap.size 40 1 v (l.length + 1) (rowsV A (m.length + 1) (l.length + 1))

/-- what holds ahead of a round of the inner loop -/
def Inn (w : World) (A N : Nat) (l m : List Int) (rv : Value) (i j : Nat) (ds : Array Value) (wr : World) : Prop :=
  Blk wr A 3 ds ∧ ds.size = N ∧ Part ds l m i j ∧ Below A w wr ∧ A < wr.heap.size ∧ wr.ownsRow (A + 1) 40 1 rv i (rowsV A (m.length + 1) i)
theorem Inn.drewN {w wr : World} {A N i j : Nat} {ds : Array Value} {l m : List Int} {rv : Value} (h : Inn w A N l m rv i j ds wr) (n : Nat) : Inn w A N l m rv i j ds (wr.drewN n) := by
  obtain ⟨h1, h2, h3, h4, h5, h6⟩ := h
  exact ⟨h1, h2, h3, below_drewN h4 n, h5, owns_below h6 (below_drewN (Below.refl _ _) n)⟩
/-- a round of the inner loop: one number more is laid -/
theorem Inn.set {w wr : World} {A N i j k : Nat} {ds : Array Value} {l m : List Int} {rv : Value} (h : Inn w A N l m rv i j ds wr) {x : Int} (hk : k = i * (m.length + 1)) (hN : k + m.length + 1 ≤ N) (hj : j < m.length + 1) (hx : x = D l m i j) :
    Inn w A N l m rv i (j + 1) (ds.setIfInBounds (k + j) (.int .i64 x)) (wr.setCell ⟨A, k + j, none⟩ (.int .i64 x)) := by
  subst hk
  obtain ⟨HB, HS, HP, HW, hlt, hown⟩ := h
  exact ⟨HB.set _ _, by simp [HS], HP.next HS (by omega) hj hx, HW.setCell (Nat.le_refl _) _, by simpa [World.setCell] using hlt, ownsRow_setCell_below hown (by simp) _⟩
/-- what holds ahead of a round of the outer loop -/
def Out (w : World) (A N : Nat) (l m : List Int) (rv : Value) (i : Nat) (wr : World) : Prop :=
  ∃ cs, Blk wr A 3 cs ∧ cs.size = N ∧ Filled cs l m i ∧ Below A w wr ∧ A < wr.heap.size ∧ wr.ownsRow (A + 1) 40 1 rv i (rowsV A (m.length + 1) i)
theorem Out.start {w wr : World} {A N : Nat} {l m : List Int} {rv : Value} {i : Nat} (h : Out w A N l m rv i wr) : ∃ cs, Inn w A N l m rv i 0 cs wr := by
  obtain ⟨cs, h1, h2, h3, h4, h5, h6⟩ := h
  exact ⟨cs, h1, h2, Part.zero h3, h4, h5, h6⟩
/-- behind the inner loop the row is put to the rows -/
theorem Inn.stop {w wr w1 : World} {A N i : Nat} {ds : Array Value} {l m : List Int} {rv v' : Value} (h : Inn w A N l m rv i (m.length + 1) ds wr) (hb : Below (A + 1) wr w1)
    (hown : w1.ownsRow (A + 1) 40 1 v' (i + 1) (rowsV A (m.length + 1) i ++ [.slice (some ⟨A, i * (m.length + 1), none⟩) (m.length + 1) (m.length + 1)])) : Out w A N l m v' (i + 1) w1 := by
  obtain ⟨HB, HS, HP, HW, hlt, _⟩ := h
  exact ⟨ds, HB.below hb (by omega), HS, HP.full, HW.trans (hb.mono (by omega)), by have := hb.size; omega, by rw [rowsV_next]; exact hown⟩

theorem step_is {l m : List Int} {i j d1 d2 d3 : Nat} {x y : Int} (hi : 1 ≤ i) (hj : 1 ≤ j) (hl : i ≤ l.length) (hm : j ≤ m.length) (hx : l.getD (i - 1) 0 = x) (hy : m.getD (j - 1) 0 = y)
    (h1 : D l m (i - 1) (j - 1) = d1) (h2 : D l m (i - 1) j = d2) (h3 : D l m i (j - 1) = d3) : D l m i j = if x = y then d1 else 1 + min (min d1 d2) d3 := by
  have e1 : l[i - 1]'(by omega) = x := by rw [← hx]; simp [List.getD_eq_getElem?_getD, show i - 1 < l.length by omega]
  have e2 : m[j - 1]'(by omega) = y := by rw [← hy]; simp [List.getD_eq_getElem?_getD, show j - 1 < m.length by omega]
  have s := D_same l m (i := i - 1) (j := j - 1) (by omega) (by omega)
  have o := D_other l m (i := i - 1) (j := j - 1) (by omega) (by omega)
  rw [show i - 1 + 1 = i from by omega, show j - 1 + 1 = j from by omega, e1, e2] at s o
  by_cases h : x = y
  · rw [if_pos h, s h, h1]
  · rw [if_neg h, o h, h1, h2, h3]

theorem mul_fits {a b : Nat} (ha : a ≤ 1025) (hb : b ≤ 1025) : wrap64 ((a : Int) * (b : Int)) = ((a * b : Nat) : Int) ∧ a * b ≤ 1050625 := by
  have h : a * b ≤ 1025 * 1025 := Nat.mul_le_mul ha hb
  rw [← Int.natCast_mul]
  exact ⟨IntWalk.wrap64_in _ ⟨by omega, by omega⟩, by omega⟩

set_option maxRecDepth 100000 in
set_option maxHeartbeats 2000000 in
theorem table_any (v1 v2 : Value) (l m : List Int) (w : World) (h1 : Ints w .i32 v1 l) (h2 : Ints w .i32 v2 m) (hl : l.length ≤ 1024) (hm : m.length ≤ 1024) :
    Calls Tryd.prog 13 #[v1, v2] w (Rows2 w l m) := by
  obtain ⟨i0, hi, hz0, hz1, hz2⟩ := info_parts info_int
  obtain ⟨j0, hj, hy0, hy1, hy2⟩ := info_parts info_row
  have H1 := Lib.hid h1
  have H2 := Lib.hid h2
  clear h1 h2
  obtain ⟨a1, c1, rfl⟩ := Ints.form H1.out
  obtain ⟨a2, c2, rfl⟩ := Ints.form H2.out
  obtain ⟨N, HNe, hN, hNb⟩ : ∃ N : Nat, Hid (N = (l.length + 1) * (m.length + 1)) ∧ wrap64 (((l.length : Int) + 1) * ((m.length : Int) + 1)) = (N : Int) ∧ N ≤ 1050625 :=
    ⟨_, rfl, by simpa using (mul_fits (a := l.length + 1) (b := m.length + 1) (by omega) (by omega)).1, (mul_fits (a := l.length + 1) (b := m.length + 1) (by omega) (by omega)).2⟩
  go_enter Tryd.func13, Tryd.ntmps13
  go_wp2_with (at_make; refine wpList_makeN _ (by rfl) _ _ 40 rfl 3 i0 (.int .i64 0) Tryd.underlying40 hi hz0 hz1 rfl _ _ rfl rfl N hN hN (by rw [hz2]; omega) (by unfold maxLen; omega) ?_; intro w1 hblk hb1 hsz1)
  obtain ⟨A, hA⟩ : ∃ A, w.heap.size = A := ⟨_, rfl⟩
  have HA := Lib.hid hA
  rw [hA] at hblk hb1 hsz1
  simp only [hA]
  clear hA hN
  go_loopw [22, 6] (fun x rv wr => ∃ i : Nat, x = .int .i64 i ∧ i ≤ l.length + 1 ∧ Out w A N l m rv i wr)
    (fun x _ _ => l.length + 1 - (intOf x).toNat)
  case atStart => exact ⟨0, rfl, Nat.zero_le _, _, hblk, by simp, fun p q hp => by omega, hb1, by omega, World.ownsRow_nil _ _ _ _⟩
  case round =>
    clear hblk hb1 hsz1
    obtain ⟨i, rfl, hile, HO⟩ := hrel
    by_cases hlast : (i : Int) < (l.length : Int) + 1
    · obtain ⟨k, HK, hk, hkN⟩ : ∃ k : Nat, Hid (k = i * (m.length + 1)) ∧ wrap64 ((i : Int) * ((m.length : Int) + 1)) = (k : Int) ∧ k + m.length + 1 ≤ N := by
        refine ⟨_, rfl, by simpa using (mul_fits (a := i) (b := m.length + 1) (by omega) (by omega)).1, ?_⟩
        have : (i + 1) * (m.length + 1) ≤ (l.length + 1) * (m.length + 1) := Nat.mul_le_mul_right _ (by omega)
        rw [HNe.out]; rw [Nat.add_mul] at this; omega
      have hM : k + m.length + 1 - k = m.length + 1 := by omega
      obtain ⟨cs, HI0⟩ := HO.start
      clear HO
      go_wp2_with fail
      simp only [hk, hM]
      clear hk hM
      go_loopw [45] (fun y wq => ∃ (j : Nat) (ds : Array Value), y = .int .i64 j ∧ j ≤ m.length + 1 ∧ Inn w A N l m u6 i j ds wq)
        (fun y _ => m.length + 1 - (intOf y).toNat)
      case atStart => exact ⟨0, cs, rfl, Nat.zero_le _, HI0⟩
      case round =>
        clear HI0
        obtain ⟨j, ds, rfl, hjle, HI⟩ := hrel
        obtain ⟨HB, HS, HP, HW, hlt, hown⟩ := id HI
        have hfr : wr.frozen? ⟨A, k + j, none⟩ = false := HB.free _
        by_cases hjlast : (j : Int) < (m.length : Int) + 1
        · obtain ⟨old, hold⟩ : ∃ old, wr.cell? ⟨A, k + j, none⟩ = some old := ⟨_, by rw [HB.cell]; exact Array.getElem?_eq_getElem (by rw [HS]; omega)⟩
          have hjm : j < m.length + 1 := by omega
          by_cases hi0 : i = 0
          · have hi0' : ((i : Int) == 0) = true := by rw [beq_iff_eq]; omega
            have HR := HI.set (x := (j : Int)) HK.out hkN hjm (by rw [hi0, D_zero_left _ _ (by omega)])
            clear hi0 HB HS HP HW hown HI
            go_wp2_with fail
            exact ⟨⟨j + 1, _, by go_num, by omega, HR⟩, by simp [intOf]; omega⟩
          · have hi0' : ((i : Int) == 0) = false := by rw [beq_eq_false_iff_ne]; omega
            by_cases hj0 : j = 0
            · have hj0' : ((j : Int) == 0) = true := by rw [beq_iff_eq]; omega
              have HR := HI.set (x := (i : Int)) HK.out hkN hjm (by rw [hj0, D_zero_right _ _ (by omega)])
              clear hi0 hj0 HB HS HP HW hown HI
              go_wp2_with fail
              exact ⟨⟨j + 1, _, by go_num, by omega, HR⟩, by simp [intOf]; omega⟩
            · have hj0' : ((j : Int) == 0) = false := by rw [beq_eq_false_iff_ne]; omega
              have hi1 : 1 ≤ i := by omega
              have hj1 : 1 ≤ j := by omega
              obtain ⟨x, hx⟩ : ∃ x, l.getD (i - 1) 0 = x := ⟨_, rfl⟩
              obtain ⟨y, hy⟩ : ∃ y, m.getD (j - 1) 0 = y := ⟨_, rfl⟩
              obtain ⟨b1, o1, rfl, _, cx⟩ := Ints.at_ (H1.out.below (by rw [HA.out]; exact HW)) (k := i - 1) (by omega) hx
              obtain ⟨b2, o2, rfl, _, cy⟩ := Ints.at_ (H2.out.below (by rw [HA.out]; exact HW)) (k := j - 1) (by omega) hy
              obtain ⟨g, cap, rfl, hgA, _, hcell⟩ := owns_at hown (by omega)
              obtain ⟨q, hq, HQ⟩ : ∃ q, q + (m.length + 1) = k ∧ Hid (q = (i - 1) * (m.length + 1)) := ⟨_, by rw [HK.out]; have := Nat.add_mul (i - 1) 1 (m.length + 1); rw [show i - 1 + 1 = i from by omega] at this; omega, rfl⟩
              have cr := hcell (i - 1) _ (rowsV_at A (m.length + 1) i (i - 1) (by omega))
              rw [← HQ.out] at cr
              clear hcell
              obtain ⟨d1, hd1⟩ : ∃ d1, D l m (i - 1) (j - 1) = d1 := ⟨_, rfl⟩
              obtain ⟨d2, hd2⟩ : ∃ d2, D l m (i - 1) j = d2 := ⟨_, rfl⟩
              obtain ⟨d3, hd3⟩ : ∃ d3, D l m i (j - 1) = d3 := ⟨_, rfl⟩
              have e1 : wr.cell? ⟨A, q + (j - 1), none⟩ = some (.int .i64 d1) := by rw [HB.cell, HQ.out, HP.1 (i - 1) (j - 1) (by omega) (by omega), hd1]
              have e2 : wr.cell? ⟨A, q + j, none⟩ = some (.int .i64 d2) := by rw [HB.cell, HQ.out, HP.1 (i - 1) j (by omega) (by omega), hd2]
              have e3 : wr.cell? ⟨A, k + (j - 1), none⟩ = some (.int .i64 d3) := by rw [HB.cell, HK.out, HP.2 (j - 1) (by omega), hd3]
              have b1' : d1 ≤ 1024 := by have := D_le l m (i := i - 1) (j := j - 1) (by omega) (by omega); omega
              have b2' : d2 ≤ 1024 := by have := D_le l m (i := i - 1) (j := j) (by omega) (by omega); omega
              have b3' : d3 ≤ 1024 := by have := D_le l m (i := i) (j := j - 1) (by omega) (by omega); omega
              have w1' : IntKind.i64.wrap ((i : Int) - 1) = (i : Int) - 1 := IntWalk.i64_in _ (by omega)
              have w2' : IntKind.i64.wrap ((j : Int) - 1) = (j : Int) - 1 := IntWalk.i64_in _ (by omega)
              have t1 : ((i : Int) - 1).toNat = i - 1 := by omega
              have t2 : ((j : Int) - 1).toNat = j - 1 := by omega
              have z1 : (0 : Int) ≤ (i : Int) - 1 := by omega
              have z2 : (0 : Int) ≤ (j : Int) - 1 := by omega
              have z3 : (i : Int) - 1 < (l.length : Int) := by omega
              have z4 : (j : Int) - 1 < (m.length : Int) := by omega
              have z5 : (1 : Int) ≤ (i : Int) := by omega
              have z6 : (i : Int) - 1 < (i : Int) := by omega
              have z7 : (1 : Int) ≤ (j : Int) := by omega
              have z8 : (j : Int) - 1 < (m.length : Int) + 1 := by omega
              have hst := step_is (i := i) (j := j) hi1 hj1 (by omega) (by omega) hx hy hd1 hd2 hd3
              obtain ⟨d4, hd4⟩ : ∃ d4, D l m i j = d4 := ⟨_, rfl⟩
              by_cases hxy : x = y
              · have hxy' : (x == y) = true := by rw [beq_iff_eq]; exact hxy
                have hD : Hid ((d1 : Int) = D l m i j) := (by rw [hst, if_pos hxy] : (d1 : Int) = D l m i j)
                clear hxy hst HB HS HP HW hown hx hy hd1 hd2 hd3 e2 e3 hi0 hj0 hd4
                go_wp2_with fail
                go_quiet (fail)
                go_wp2_with fail
                exact ⟨⟨j + 1, _, by go_num, by omega, (HI.drewN nq).set HK.out hkN hjm hD.out⟩, by simp [intOf]; omega⟩
              · have hxy' : (x == y) = false := by rw [beq_eq_false_iff_ne]; exact hxy
                obtain ⟨mn, hmn⟩ : ∃ mn, min (min d1 d2) d3 = mn := ⟨_, rfl⟩
                have hM3 : Hid ((if (d3 : Int) < (if d2 < d1 then (d2 : Int) else (d1 : Int)) then (d3 : Int) else if d2 < d1 then (d2 : Int) else (d1 : Int)) = (mn : Int)) := (min3 d1 d2 d3).trans (by rw [hmn])
                have hD : Hid (IntKind.i64.wrap (1 + (mn : Int)) = (d4 : Int)) := (IntWalk.i64_in _ (by omega)).trans (by rw [← hd4, hst, if_neg hxy, hmn]; omega)
                clear hmn
                have HD4 := Lib.hid hd4
                clear hxy hst HB HS HP HW hown hx hy hd1 hd2 hd3 hi0 hj0 hd4
                go_wp2_with fail
                go_quiet (fail)
                go_wp2_with fail
                go_region_held3 (fun w' => w'.cell? ⟨g, i - 1, none⟩ = some (Value.slice (some ⟨A, q, none⟩) (m.length + 1) (m.length + 1)) ∧ w'.cell? ⟨A, q + (j - 1), none⟩ = some (.int .i64 d1) ∧ w'.cell? ⟨A, q + j, none⟩ = some (.int .i64 d2) ∧ w'.cell? ⟨A, k + (j - 1), none⟩ = some (.int .i64 d3)) (first | go_keep | (exact ⟨(cell_far (by intro e; injection e; omega)).trans cr, (cell_far (by intro e; injection e; omega)).trans e1, (cell_far (by intro e; injection e; omega)).trans e2, (cell_far (by intro e; injection e; omega)).trans e3⟩)) (fail)
                rw [hM3.out, hD.out]
                go_wp2_with fail
                exact ⟨⟨j + 1, ds.setIfInBounds (k + j) (.int .i64 d4), by go_num, by omega, (HI.drewN (nq + 1)).set HK.out hkN hjm (by rw [HD4.out])⟩, by simp [intOf]; omega⟩
        · have hje : j = m.length + 1 := by omega
          subst hje
          have hkk : Hid (k = i * (m.length + 1)) := HK
          clear HB HS HP HW hfr
          go_wp2_with (at_builtin; refine wpList_push _ (by rfl) _ _ 37 rfl (A + 1) 40 j0 (.slice none 0 0) 24 Tryd.underlying37 hj hy0 hy1 hy2 rfl u6 i _ rfl (hown.alloc _) wr.heap.size (.slice (some ⟨A, k, none⟩) (m.length + 1) (m.length + 1)) rfl (cell_new _ _ _ _ rfl) rfl (by unfold maxLen; omega) (by omega) (by simp; omega) ?_; intro v' w2 hown2 hb2)
          rw [hkk.out] at hown2
          exact ⟨⟨i + 1, by go_num, by omega, HI.stop (((Below.refl (A + 1) wr).alloc (by omega) _).trans hb2) hown2⟩, by simp [intOf]; omega⟩
    · have hie : i = l.length + 1 := by omega
      subst hie
      obtain ⟨cs, h1, h2, h3, h4, h5, h6⟩ := HO
      have HX : Hid (Rows2 w l m (.returned u6) wr) := ⟨by rw [HA.out]; exact h4, u6, cs, A, rfl, by rw [HA.out]; exact Nat.le_refl _, h1, h3, by rw [HA.out]; exact owns_base_le h6 (by omega)⟩
      clear h1 h2 h3 h4 h5 h6
      go_wp2_with fail
      go_ret
      exact HX.out
end Go.Proofs.YtkgmikglifmenaaDoor.E
