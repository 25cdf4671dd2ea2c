/-
  The walks of the rules: Newer, Timeout, Grant, Quorum, Agreed (of few voters).
-/
import Derived.Test.YtmokfpjiibociaaRulSort
namespace Go.Proofs.Ytmokfpjiibociaa.R
open Go.RowKit
open Aid
set_option linter.unusedSimpArgs false
set_option linter.unusedVariables false

def newerB (t i lt l : Int) : Bool := decide (lt < t) || (t == lt && decide (l ≤ i))
set_option maxRecDepth 100000 in
theorem newer_any (t i lt l : Int) (w : World) : Calls Try.prog 16 #[.int .u64 t, .int .u64 i, .int .u64 lt, .int .u64 l] w fun e w' => e = .returned (.bool (newerB t i lt l)) ∧ w' = w := by
  by_cases h1 : lt < t
  · go_enter Try.func16, Try.ntmps16
    go_wp2_with fail
    go_ret
    exact ⟨ret_bool (by simp [newerB, h1]), rfl⟩
  · cases h2 : (t == lt)
    all_goals
      go_enter Try.func16, Try.ntmps16
      go_wp2_with fail
      go_ret
      exact ⟨ret_bool (by simp [newerB, h1, h2]; try omega), rfl⟩
set_option maxRecDepth 100000 in
theorem rnewer_any (t i lt l : Int) (w : World) : Calls Try.prog 17 #[.int .u64 t, .int .u64 i, .int .u64 lt, .int .u64 l] w fun e w' => e = .returned (.bool (newerB t i lt l)) ∧ w' = w := by
  by_cases he : t = lt
  · have h2 : (t == lt) = true := by rw [beq_iff_eq]; exact he
    have h3 : (t != lt) = false := by simp [he]
    have HX : Hid (newerB t i lt l = decide (l ≤ i)) := by show _ = _; simp [newerB, he]
    clear he
    go_enter Try.func17, Try.ntmps17
    go_wp2_with fail
    go_ret
    exact ⟨ret_bool HX.out.symm, rfl⟩
  · have h2 : (t == lt) = false := by rw [beq_eq_false_iff_ne]; exact he
    have h3 : (t != lt) = true := by simp [he]
    have HX : Hid (newerB t i lt l = decide (lt < t)) := by show _ = _; simp [newerB, he]
    clear he
    go_enter Try.func17, Try.ntmps17
    go_wp2_with fail
    go_ret
    exact ⟨ret_bool HX.out.symm, rfl⟩
set_option maxRecDepth 100000 in
theorem timeout_any (d : Int) (w : World) (h0 : 0 ≤ d) : Calls Try.prog 24 #[.int .u64 d] w fun e w' => e = .returned (.int .i64 (10 + d % 22)) ∧ w' = w := by
  have h1 : d.tmod 22 = d % 22 := Int.tmod_eq_emod_of_nonneg h0
  have h2 : IntKind.i64.wrap (d % 22) = d % 22 := IntWalk.i64_in _ (by omega)
  have h3 : IntKind.i64.wrap (10 + d % 22) = 10 + d % 22 := IntWalk.i64_in _ (by omega)
  have h4 : IntKind.u64.wrap (d % 22) = d % 22 := by rw [IntKind.wrap_u64]; omega
  go_enter Try.func24, Try.ntmps24
  go_wp2_with fail
  go_ret
  exact ⟨rfl, rfl⟩

theorem ret_i {k : IntKind} {a b : Int} (h : a = b) : Ending.returned (.int k a) = .returned (.int k b) := by rw [h]
/-- is a number among some? -/
def hasB (l : List Int) (x : Int) : Bool := l.contains x
/-- where it stands first -/
def ixF (l : List Int) (x : Int) : Int := if l.contains x then (l.idxOf x : Int) else -1
theorem not_take_next {l : List Int} {x y : Int} {k : Nat} (h : (l.take k).contains x = false) (hk : k < l.length) (hy : l.getD k 0 = y) (hne : x ≠ y) : (l.take (k + 1)).contains x = false := by
  have e1 : l[k] = y := by rw [← hy]; simp [List.getD_eq_getElem?_getD, hk]
  rw [List.take_succ_eq_append_getElem hk, e1]
  simp only [List.contains_eq_any_beq, List.any_append, List.any_cons, List.any_nil] at h ⊢
  rw [h]; simp [hne]
theorem ix_at {l : List Int} {x : Int} {k : Nat} (h : (l.take k).contains x = false) (hk : k < l.length) (hy : l.getD k 0 = x) : ixF l x = (k : Int) := by
  have e1 : l[k] = x := by rw [← hy]; simp [List.getD_eq_getElem?_getD, hk]
  have hm : x ∈ l := by rw [← e1]; exact List.getElem_mem hk
  unfold ixF
  rw [if_pos (by simpa using hm)]
  have hn : x ∉ l.take k := by intro hh; have : (l.take k).contains x = true := by simpa using hh
                               rw [this] at h; cases h
  have hd : l = l.take k ++ x :: l.drop (k + 1) := by rw [← e1, ← List.drop_eq_getElem_cons hk, List.take_append_drop]
  rw [hd, List.idxOf_append, if_neg hn]
  simp [List.idxOf_cons]; omega
theorem ix_no {l : List Int} {x : Int} (h : (l.take l.length).contains x = false) : ixF l x = -1 := by
  rw [List.take_length] at h
  unfold ixF; rw [h]; simp
theorem ix_has (l : List Int) (x : Int) : decide (0 ≤ ixF l x) = hasB l x := by
  unfold ixF hasB
  cases h : l.contains x <;> simp <;> omega

set_option maxRecDepth 100000 in
set_option maxHeartbeats 1000000 in
theorem index_any (v : Value) (l : List Int) (x : Int) (w : World) (h : Ints w .i64 v l) : Calls Try.prog 41 #[v, .int .i64 x] w fun e w' => e = .returned (.int .i64 (ixF l x)) ∧ w' = w := by
  have HI := Lib.hid h
  have h63 := h.1
  clear h
  obtain ⟨a, c, rfl⟩ := Ints.form HI.out
  go_enter Try.func41, Try.ntmps41
  go_wp2_with fail
  go_loop [8] (fun i => ∃ k : Nat, i = .int .i64 k ∧ k ≤ l.length ∧ Hid ((l.take k).contains x = false)) (fun i => l.length - (intOf i).toNat)
  case atStart => exact ⟨0, rfl, Nat.zero_le _, by simp [Hid]⟩
  case round =>
    obtain ⟨k, rfl, hk, HK⟩ := hrel
    by_cases hlt : (k : Int) < (l.length : Int)
    · obtain ⟨y, hy⟩ : ∃ y, l.getD k 0 = y := ⟨_, rfl⟩
      obtain ⟨b1, o1, rfl, _, cy⟩ := Ints.at_ HI.out (k := k) (by omega) hy
      by_cases hxy : x = y
      · have hb : (x == y) = true := by rw [beq_iff_eq]; exact hxy
        have HX : Hid (ixF l x = (k : Int)) := ix_at HK.out (by omega) (hy.trans hxy.symm)
        clear hxy hy
        go_wp2_with fail
        go_ret
        exact ⟨ret_i HX.out.symm, rfl⟩
      · have hb : (x == y) = false := by rw [beq_eq_false_iff_ne]; exact hxy
        have HX : Hid ((l.take (k + 1)).contains x = false) := not_take_next HK.out (by omega) hy hxy
        clear hxy hy
        go_wp2_with fail
        exact ⟨⟨k + 1, by go_num, by omega, HX⟩, by simp [intOf]; omega⟩
    · have hke : k = l.length := by omega
      subst hke
      have HX : Hid (ixF l x = -1) := ix_no HK.out
      go_wp2_with fail
      go_ret
      exact ⟨ret_i HX.out.symm, rfl⟩
set_option maxRecDepth 100000 in
theorem contains_any (v : Value) (l : List Int) (x : Int) (w : World) (h : Ints w .i64 v l) : Calls Try.prog 37 #[v, .int .i64 x] w fun e w' => e = .returned (.bool (hasB l x)) ∧ w' = w := by
  have hx : Hid (decide (0 ≤ ixF l x) = hasB l x) := ix_has l x
  obtain ⟨i, hi⟩ : ∃ i, ixF l x = i := ⟨_, rfl⟩
  rw [hi] at hx
  have HI := Lib.hid hi
  clear hi
  go_enter Try.func37, Try.ntmps37
  go_wp2_with (go_at_call 41; refine (index_any _ l x _ h).mono ?_; rintro e w1 ⟨rfl, rfl⟩; rw [HI.out])
  go_ret
  exact ⟨ret_bool hx.out, rfl⟩

/-- how many of some are among others -/
def countB (l m : List Int) : Nat := (l.filter (hasB m)).length
theorem count_next {l m : List Int} {k : Nat} (hk : k < l.length) {x : Int} (hx : l.getD k 0 = x) : countB (l.take (k + 1)) m = countB (l.take k) m + if hasB m x then 1 else 0 := by
  have e1 : l[k] = x := by rw [← hx]; simp [List.getD_eq_getElem?_getD, hk]
  unfold countB
  rw [List.take_succ_eq_append_getElem hk, e1, List.filter_append, List.length_append]
  cases h : hasB m x <;> simp [h]
theorem count_le (l m : List Int) : countB l m ≤ l.length := List.length_filter_le _ _
/-- have enough said yes? -/
def quorumB (l m : List Int) : Bool := decide (l.length / 2 < countB l m)

set_option maxRecDepth 100000 in
set_option maxHeartbeats 1000000 in
theorem quorum_any (v u : Value) (l m : List Int) (w : World) (h : Ints w .i64 v l) (hu : Ints w .i64 u m) : Calls Try.prog 23 #[.agg #[v], u] w fun e w' => e = .returned (.bool (quorumB l m)) ∧ Below w.heap.size w w' := by
  have HI := Lib.hid h
  have HU := Lib.hid hu
  have h63 := h.1
  clear h hu
  obtain ⟨a, c, rfl⟩ := Ints.form HI.out
  go_enter Try.func23, Try.ntmps23
  go_wp2_with fail
  have hbA : Below w.heap.size w (w.alloc (.cells #[.slice a l.length c] 40)) := (Below.refl _ _).alloc (Nat.le_refl _) _
  have hc0 : (w.alloc (.cells #[.slice a l.length c] 40)).cell? ⟨w.heap.size, 0, none⟩ = some (.slice a l.length c) := cell_new _ _ _ _ rfl
  obtain ⟨wa, hwa⟩ : ∃ wa, w.alloc (.cells #[.slice a l.length c] 40) = wa := ⟨_, rfl⟩
  rw [hwa] at hbA hc0
  simp only [hwa]
  have HIa := Lib.hid (HI.out.below hbA)
  have HUa := Lib.hid (HU.out.below hbA)
  clear hwa
  go_loop [5, 11] (fun q i => ∃ k n : Nat, i = .int .i64 k ∧ q = .int .i64 n ∧ k ≤ l.length ∧ n ≤ k ∧ Hid (n = countB (l.take k) m)) (fun _ i => l.length - (intOf i).toNat)
  case atStart => exact ⟨0, 0, rfl, rfl, Nat.zero_le _, Nat.le_refl _, by simp [Hid, countB]⟩
  case round =>
    obtain ⟨k, n, rfl, rfl, hk, hnk, HN⟩ := hrel
    by_cases hlt : (k : Int) < (l.length : Int)
    · obtain ⟨y, hy⟩ : ∃ y, l.getD k 0 = y := ⟨_, rfl⟩
      obtain ⟨b1, o1, rfl, _, cy⟩ := Ints.at_ HIa.out (k := k) (by omega) hy
      have HC := Lib.hid (count_next (m := m) (k := k) (by omega) hy)
      rw [← HN.out] at HC
      clear hy
      cases hq : hasB m y
      · rw [hq] at HC
        go_wp2_with (go_at_call 37; refine (contains_any u m y _ HUa.out).mono ?_; rintro e w1 ⟨rfl, rfl⟩; rw [hq])
        exact ⟨⟨k + 1, n, by go_num, rfl, by omega, by omega, HC.out.symm⟩, by simp [intOf]; omega⟩
      · rw [hq] at HC
        go_wp2_with (go_at_call 37; refine (contains_any u m y _ HUa.out).mono ?_; rintro e w1 ⟨rfl, rfl⟩; rw [hq])
        exact ⟨⟨k + 1, n + 1, by go_num, by go_num, by omega, by omega, HC.out.symm⟩, by simp [intOf]; omega⟩
    · have hke : k = l.length := by omega
      subst hke
      rw [List.take_length] at HN
      have hdv : ((l.length : Int).tdiv 2) = ((l.length / 2 : Nat) : Int) := by rw [Int.tdiv_eq_ediv_of_nonneg (by omega)]; omega
      obtain ⟨hf, hhf⟩ : ∃ hf, l.length / 2 = hf := ⟨_, rfl⟩
      rw [hhf] at hdv
      have hwf : wrap64 (hf : Int) = (hf : Int) := IntWalk.wrap64_in _ (by omega)
      have hwf' : IntKind.i64.wrap (hf : Int) = (hf : Int) := IntWalk.i64_in _ (by omega)
      have HQ : Hid (quorumB l m = decide (hf < n)) := by show _ = _; unfold quorumB; rw [hhf, HN.out]
      clear hhf
      go_wp2_with fail
      go_ret
      exact ⟨ret_bool HQ.out.symm, hbA⟩

end Go.Proofs.Ytmokfpjiibociaa.R
