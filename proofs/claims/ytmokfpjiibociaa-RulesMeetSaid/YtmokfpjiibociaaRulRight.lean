/-
  The walks of Right, of Votes and of the reference's.
-/
import Derived.Test.YtmokfpjiibociaaRulBack
namespace Go.Proofs.Ytmokfpjiibociaa.R
open Go.RowKit
open Aid
set_option linter.unusedSimpArgs false
set_option linter.unusedVariables false

/-- the voter ahead of one -/
def lastF (l : List Int) (k : Nat) : Int := if k = 0 then -1 else l.getD (k - 1) 0
def okAt (l : List Int) (k : Nat) : Bool := decide (lastF l k < l.getD k 0) && decide (l.getD k 0 ≤ 6)
def upB (l : List Int) (k : Nat) : Bool := (List.range k).all (okAt l)
/-- may a configuration be? -/
def rightB (l : List Int) : Bool := decide (0 < l.length) && upB l l.length
theorem up_zero (l : List Int) : upB l 0 = true := by simp [upB]
theorem up_next {l : List Int} {k : Nat} (h : upB l k = true) (ho : okAt l k = true) : upB l (k + 1) = true := by
  unfold upB at *
  rw [List.range_succ, List.all_append, h]; simp [ho]
theorem up_at {l : List Int} {k j : Nat} (h : upB l k = true) (hj : j < k) : okAt l j = true := by
  unfold upB at h
  rw [List.all_eq_true] at h
  exact h j (List.mem_range.2 hj)
theorem up_nonneg {l : List Int} : ∀ {k : Nat}, upB l k = true → ∀ j, j < k → 0 ≤ l.getD j 0 := by
  intro k h j
  induction j with
  | zero =>
    intro hj
    have := up_at h hj
    simp [okAt, lastF] at this
    simp [List.getD_eq_getElem?_getD] at *
    omega
  | succ j ih =>
    intro hj
    have h1 := ih (by omega)
    have := up_at h hj
    simp only [okAt, lastF, Nat.add_sub_cancel, if_neg (Nat.succ_ne_zero j), Bool.and_eq_true, decide_eq_true_eq] at this
    omega
theorem last_ge {l : List Int} {k : Nat} (h : upB l k = true) : -1 ≤ lastF l k := by
  unfold lastF
  split
  · omega
  · have := up_nonneg h (k - 1) (by omega); omega
theorem right_no {l : List Int} {k : Nat} (hk : k < l.length) (h : okAt l k = false) : rightB l = false := by
  cases hr : rightB l with
  | false => rfl
  | true =>
    unfold rightB at hr
    simp only [Bool.and_eq_true] at hr
    rw [up_at hr.2 hk] at h; cases h
theorem right_yes {l : List Int} (h : upB l l.length = true) : rightB l = decide (0 < l.length) := by simp [rightB, h]
theorem ok_of {l : List Int} {k : Nat} {p y : Int} (hp : lastF l k = p) (hy : l.getD k 0 = y) (h1 : p < y) (h2 : y ≤ 6) : okAt l k = true := by simp only [okAt, hp, hy]; simp [h1, h2]
theorem ok_not {l : List Int} {k : Nat} {p y : Int} (hp : lastF l k = p) (hy : l.getD k 0 = y) (h : y ≤ p ∨ 6 < y) : okAt l k = false := by simp only [okAt, hp, hy]; simp; omega
theorem last_next {l : List Int} {k : Nat} {y : Int} (hy : l.getD k 0 = y) : lastF l (k + 1) = y := by simp only [lastF, if_neg (Nat.succ_ne_zero k), Nat.add_sub_cancel]; exact hy
theorem last_zero (l : List Int) : lastF l 0 = -1 := rfl
theorem last_pos {l : List Int} {k : Nat} (h : 0 < k) : lastF l k = l.getD (k - 1) 0 := by unfold lastF; rw [if_neg (by omega)]

set_option maxRecDepth 100000 in
set_option maxHeartbeats 1000000 in
theorem right_any (v : Value) (l : List Int) (w : World) (h : Ints w .i64 v l) : Calls Try.prog 27 #[.agg #[v]] w fun e w' => e = .returned (.bool (rightB l)) ∧ Below w.heap.size w w' := by
  have HI := Lib.hid h
  have h63 := h.1
  clear h
  obtain ⟨a, c, rfl⟩ := Ints.form HI.out
  go_enter Try.func27, Try.ntmps27
  go_wp2_with fail
  have hbA : Below w.heap.size w (w.alloc (.cells #[.slice a l.length c] 40)) := (Below.refl _ _).alloc (Nat.le_refl _) _
  have hc0 : (w.alloc (.cells #[.slice a l.length c] 40)).cell? ⟨w.heap.size, 0, none⟩ = some (.slice a l.length c) := cell_new _ _ _ _ rfl
  obtain ⟨wa, hwa⟩ : ∃ wa, w.alloc (.cells #[.slice a l.length c] 40) = wa := ⟨_, rfl⟩
  rw [hwa] at hbA hc0
  simp only [hwa]
  have HIa := Lib.hid (HI.out.below hbA)
  clear hwa
  go_loop [3, 9] (fun q i => ∃ (k : Nat) (p : Int), i = .int .i64 k ∧ q = .int .i64 p ∧ k ≤ l.length ∧ Hid (lastF l k = p) ∧ Hid (upB l k = true)) (fun _ i => l.length - (intOf i).toNat)
  case atStart => exact ⟨0, -1, rfl, rfl, Nat.zero_le _, last_zero l, up_zero l⟩
  case round =>
    obtain ⟨k, p, rfl, rfl, hk, HP, HU⟩ := hrel
    by_cases hlt : (k : Int) < (l.length : Int)
    · obtain ⟨y, hy⟩ : ∃ y, l.getD k 0 = y := ⟨_, rfl⟩
      obtain ⟨b1, o1, rfl, _, cy⟩ := Ints.at_ HIa.out (k := k) (by omega) hy
      have HY := Lib.hid hy
      clear hy
      by_cases h1 : y ≤ p
      · have HX : Hid (rightB l = false) := right_no (k := k) (by omega) (ok_not HP.out HY.out (.inl h1))
        go_wp2_with fail
        go_ret
        exact ⟨ret_bool HX.out.symm, hbA⟩
      · by_cases h2 : 7 ≤ y
        · have HX : Hid (rightB l = false) := right_no (k := k) (by omega) (ok_not HP.out HY.out (.inr (by omega)))
          go_wp2_with fail
          go_ret
          exact ⟨ret_bool HX.out.symm, hbA⟩
        · go_wp2_with fail
          exact ⟨⟨k + 1, y, by go_num, rfl, by omega, last_next HY.out, up_next HU.out (ok_of HP.out HY.out (by omega) (by omega))⟩, by simp [intOf]; omega⟩
    · have hke : k = l.length := by omega
      subst hke
      have HX : Hid (rightB l = decide (0 < l.length)) := right_yes HU.out
      go_wp2_with fail
      go_ret
      exact ⟨ret_bool (by rw [HX.out]; try simp), hbA⟩

set_option maxRecDepth 100000 in
set_option maxHeartbeats 1000000 in
theorem rright_any (v : Value) (l : List Int) (w : World) (h : Ints w .i64 v l) : Calls Try.prog 22 #[.agg #[v]] w fun e w' => e = .returned (.bool (rightB l)) ∧ Below w.heap.size w w' := by
  have HI := Lib.hid h
  have h63 := h.1
  clear h
  obtain ⟨a, c, rfl⟩ := Ints.form HI.out
  go_enter Try.func22, Try.ntmps22
  go_wp2_with fail
  have hbA : Below w.heap.size w (w.alloc (.cells #[.slice a l.length c] 40)) := (Below.refl _ _).alloc (Nat.le_refl _) _
  have hc0 : (w.alloc (.cells #[.slice a l.length c] 40)).cell? ⟨w.heap.size, 0, none⟩ = some (.slice a l.length c) := cell_new _ _ _ _ rfl
  obtain ⟨wa, hwa⟩ : ∃ wa, w.alloc (.cells #[.slice a l.length c] 40) = wa := ⟨_, rfl⟩
  rw [hwa] at hbA hc0
  simp only [hwa]
  obtain ⟨A, hA⟩ : ∃ A, w.heap.size = A := ⟨_, rfl⟩
  rw [hA] at hc0 hbA
  simp only [hA]
  have hsz : wa.heap.size = A + 1 := by rw [← hwa]; simp [hA]
  have HIa := Lib.hid (HI.out.below (by rw [hA]; exact hbA))
  have HA := Lib.hid hA
  clear hwa hA
  go_loopw [3] (fun i wr => ∃ (k : Nat), i = .int .i64 k ∧ k ≤ l.length ∧ Hid (upB l k = true) ∧ Below (A + 1) wa wr) (fun i _ => l.length - (intOf i).toNat)
  case atStart => exact ⟨0, rfl, Nat.zero_le _, up_zero l, Below.refl _ _⟩
  case round =>
    obtain ⟨k, rfl, hk, HU, hb⟩ := hrel
    have hcr := (hb.cell (p := ⟨A, 0, none⟩) (by show A < A + 1; omega)).trans hc0
    have hbr : Below A w wr := hbA.trans (hb.mono (by omega))
    by_cases hlt : (k : Int) < (l.length : Int)
    · obtain ⟨y, hy⟩ : ∃ y, l.getD k 0 = y := ⟨_, rfl⟩
      obtain ⟨p, hp⟩ : ∃ p, lastF l k = p := ⟨_, rfl⟩
      have hp1 : -1 ≤ p := by rw [← hp]; exact last_ge HU.out
      have HIr := Lib.hid (HIa.out.below (hb.mono (by omega)))
      obtain ⟨b1, o1, rfl, _, cy⟩ := Ints.at_ HIr.out (k := k) (by omega) hy
      have HY := Lib.hid hy
      have HP := Lib.hid hp
      clear hy
      have hk0 : decide ((k : Int) < 0) = false := by simp
      by_cases h1 : y < 0
      · have d1 : decide (y < 0) = true := by simp [h1]
        have HX : Hid (rightB l = false) := right_no (k := k) (by omega) (ok_not HP.out HY.out (.inl (by omega)))
        clear hp
        go_wp2_with fail
        go_quiet (fail)
        go_wp2_with fail
        go_ret
        exact ⟨ret_bool HX.out.symm, by rw [HA.out]; exact below_drewN hbr _⟩
      · have d1 : decide (y < 0) = false := by simp; omega
        by_cases h2 : 6 < y
        · have d2 : decide (6 < y) = true := by simp [h2]
          have HX : Hid (rightB l = false) := right_no (k := k) (by omega) (ok_not HP.out HY.out (.inr (by omega)))
          clear hp
          go_wp2_with fail
          go_quiet (fail)
          go_wp2_with fail
          go_ret
          exact ⟨ret_bool HX.out.symm, by rw [HA.out]; exact below_drewN hbr _⟩
        · have d2 : decide (6 < y) = false := by simp; omega
          by_cases h3 : 0 < k
          · have d3 : decide ((0 : Int) < (k : Int)) = true := by simp [h3]
            obtain ⟨j, rfl⟩ : ∃ j, k = j + 1 := ⟨k - 1, by omega⟩
            rw [last_pos h3, Nat.add_sub_cancel] at hp
            obtain ⟨b2, o2, hbo, _, cp⟩ := Ints.at_ HIr.out (k := j) (by omega) hp
            obtain ⟨rfl, rfl⟩ : b1 = b2 ∧ o1 = o2 := by simpa using hbo
            have hj1 : IntKind.i64.wrap (((j + 1 : Nat) : Int) - 1) = (j : Int) := by rw [IntWalk.i64_in _ (by omega)]; omega
            have hj2 : wrap64 (((j + 1 : Nat) : Int) - 1) = (j : Int) := by rw [IntWalk.wrap64_in _ (by omega)]; omega
            have hjl : (j : Int) < (l.length : Int) := by omega
            clear hp
            by_cases h4 : y ≤ p
            · have d4 : decide (y ≤ p) = true := by simp [h4]
              have HX : Hid (rightB l = false) := right_no (k := j + 1) (by omega) (ok_not HP.out HY.out (.inl h4))
              go_wp2_with fail
              go_quiet (fail)
              go_wp2_with fail
              go_ret
              exact ⟨ret_bool HX.out.symm, by rw [HA.out]; exact below_drewN hbr _⟩
            · have d4 : decide (y ≤ p) = false := by simp; omega
              go_wp2_with fail
              go_quiet (fail)
              go_wp2_with fail
              exact ⟨⟨j + 1 + 1, by go_num, by omega, up_next HU.out (ok_of HP.out HY.out (by omega) (by omega)), below_drewN hb _⟩, by simp [intOf]; omega⟩
          · have d3 : decide ((0 : Int) < (k : Int)) = false := by simp; omega
            have hpm : p = -1 := by rw [← hp]; unfold lastF; rw [if_pos (by omega)]
            clear hp
            go_wp2_with fail
            go_quiet (fail)
            go_wp2_with fail
            exact ⟨⟨k + 1, by go_num, by omega, up_next HU.out (ok_of HP.out HY.out (by omega) (by omega)), below_drewN hb _⟩, by simp [intOf]; omega⟩
    · have hke : k = l.length := by omega
      subst hke
      have HX : Hid (rightB l = decide (0 < l.length)) := right_yes HU.out
      go_wp2_with fail
      go_ret
      exact ⟨ret_bool (by rw [HX.out]; simp; omega), by rw [HA.out]; exact hbr⟩

set_option maxRecDepth 100000 in
theorem votes_any (v : Value) (l : List Int) (x : Int) (w : World) (h : Ints w .i64 v l) : Calls Try.prog 28 #[.agg #[v], .int .i64 x] w fun e w' => e = .returned (.bool (hasB l x)) ∧ Below w.heap.size w w' := by
  have HI := Lib.hid h
  clear h
  obtain ⟨a, c, rfl⟩ := Ints.form HI.out
  have hbA : Below w.heap.size w (w.alloc (.cells #[.slice a l.length c] 40)) := (Below.refl _ _).alloc (Nat.le_refl _) _
  have HIa := Lib.hid (HI.out.below hbA)
  go_enter Try.func28, Try.ntmps28
  go_wp2_with (go_at_call 37; refine (contains_any _ l x _ HIa.out).mono ?_; rintro e w1 ⟨rfl, rfl⟩)
  go_ret
  exact ⟨rfl, hbA⟩

theorem has_step {l : List Int} {x : Int} {k : Nat} (hk : k < l.length) (hy : l.getD k 0 = x) : hasB l x = true := by
  have e1 : l[k] = x := by rw [← hy]; simp [List.getD_eq_getElem?_getD, hk]
  unfold hasB
  simp only [List.contains_iff_mem]
  rw [← e1]; exact List.getElem_mem hk
theorem has_no {l : List Int} {x : Int} (h : (l.take l.length).contains x = false) : hasB l x = false := by
  rw [List.take_length] at h; exact h
set_option maxRecDepth 100000 in
set_option maxHeartbeats 1000000 in
theorem in_any (v : Value) (l : List Int) (x : Int) (w : World) (h : Ints w .i64 v l) : Calls Try.prog 29 #[v, .int .i64 x] w fun e w' => e = .returned (.bool (hasB l x)) ∧ w' = w := by
  have HI := Lib.hid h
  have h63 := h.1
  clear h
  obtain ⟨a, c, rfl⟩ := Ints.form HI.out
  go_enter Try.func29, Try.ntmps29
  go_wp2_with fail
  go_loop [5] (fun i => ∃ k : Nat, i = .int .i64 k ∧ k ≤ l.length ∧ Hid ((l.take k).contains x = false)) (fun i => l.length - (intOf i).toNat)
  case atStart => exact ⟨0, rfl, Nat.zero_le _, by simp [Hid]⟩
  case round =>
    obtain ⟨k, rfl, hk, HK⟩ := hrel
    by_cases hlt : (k : Int) < (l.length : Int)
    · obtain ⟨y, hy⟩ : ∃ y, l.getD k 0 = y := ⟨_, rfl⟩
      obtain ⟨b1, o1, rfl, _, cy⟩ := Ints.at_ HI.out (k := k) (by omega) hy
      by_cases hxy : x = y
      · have hb : (y == x) = true := by rw [beq_iff_eq]; exact hxy.symm
        have HX : Hid (hasB l x = true) := has_step (by omega) (hy.trans hxy.symm)
        clear hxy hy
        go_wp2_with fail
        go_ret
        exact ⟨ret_bool HX.out.symm, rfl⟩
      · have hb : (y == x) = false := by rw [beq_eq_false_iff_ne]; exact fun e => hxy e.symm
        have HX : Hid ((l.take (k + 1)).contains x = false) := not_take_next HK.out (by omega) hy hxy
        clear hxy hy
        go_wp2_with fail
        exact ⟨⟨k + 1, by go_num, by omega, HX⟩, by simp [intOf]; omega⟩
    · have hke : k = l.length := by omega
      subst hke
      have HX : Hid (hasB l x = false) := has_no HK.out
      go_wp2_with fail
      go_ret
      exact ⟨ret_bool HX.out.symm, rfl⟩
end Go.Proofs.Ytmokfpjiibociaa.R
