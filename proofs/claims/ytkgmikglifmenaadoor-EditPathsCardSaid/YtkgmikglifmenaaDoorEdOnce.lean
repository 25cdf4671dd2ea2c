/-
  The walks of the reference's Distance and Once.
-/
import Derived.Test.YtkgmikglifmenaaDoorEdDist
import Derived.Test.YtkgmikglifmenaaDoorEdFar
namespace Go.Proofs.YtkgmikglifmenaaDoor.E
open Go.RowKit
open LM EM Aid L
set_option linter.unusedSimpArgs false
set_option linter.unusedVariables false

theorem pre_drop {l m : List Int} : ∀ k, k ≤ l.length → k ≤ m.length → l.take k = m.take k → pre l m = k + pre (l.drop k) (m.drop k) := by
  intro k
  induction k generalizing l m with
  | zero => intro _ _ _; simp
  | succ k ih =>
    intro h1 h2 h3
    match l, m, h1, h2 with
    | a :: l, b :: m, h1, h2 =>
      simp at h3
      obtain ⟨rfl, h3⟩ := h3
      simp only [pre, if_true, List.drop_succ_cons]
      rw [ih (by simpa using h1) (by simpa using h2) h3]; omega
theorem pre_at {l m : List Int} {k : Nat} (h1 : k < l.length) (h2 : k < m.length) (ht : l.take k = m.take k) {x y : Int} (hx : l.getD k 0 = x) (hy : m.getD k 0 = y) (hne : x ≠ y) : pre l m = k := by
  rw [pre_drop k (by omega) (by omega) ht, List.drop_eq_getElem_cons h1, List.drop_eq_getElem_cons h2]
  have e1 : l[k] = x := by rw [← hx]; simp [List.getD_eq_getElem?_getD, h1]
  have e2 : m[k] = y := by rw [← hy]; simp [List.getD_eq_getElem?_getD, h2]
  simp only [pre, e1, e2, if_neg hne, Nat.add_zero]
theorem pre_end {l m : List Int} {k : Nat} (h1 : k ≤ l.length) (h2 : k ≤ m.length) (ht : l.take k = m.take k) (he : k = l.length) : pre l m = k := by
  rw [pre_drop k h1 h2 ht]
  subst he
  simp [pre]

/-- a piece of a slice -/
theorem Ints.cut {w : World} {K : IntKind} {a : Option Addr} {cap : Nat} {l : List Int} (h : Ints w K (.slice a l.length cap) l) (hc : l.length ≤ cap) {k : Nat} (hk : k ≤ l.length) :
    Ints w K (.slice (if cap = k then a else a.map fun x => x.add k) (l.length - k) (cap - k)) (l.drop k) := by
  obtain ⟨h0, h⟩ := h
  refine ⟨by simp; omega, ?_⟩
  by_cases he : k = l.length
  · subst he
    refine .inl ⟨by simp, ?_⟩
    rcases h with ⟨hl, hv⟩ | ⟨b, off, c, hv, hlt, hc⟩
    · rcases hv with hv | ⟨ad, c, hv⟩
      · simp at hv; obtain ⟨rfl, hl0, rfl⟩ := hv; left; simp
      · simp at hv; obtain ⟨rfl, hl0, rfl⟩ := hv
        right
        by_cases hh : cap = l.length
        · exact ⟨ad, 0, by rw [if_pos hh, hh]; simp⟩
        · exact ⟨ad.add l.length, cap - l.length, by rw [if_neg hh]; simp⟩
    · simp at hv; obtain ⟨rfl, rfl⟩ := hv
      right
      by_cases hh : cap = l.length
      · exact ⟨⟨b, off, none⟩, 0, by rw [if_pos hh, hh]; simp⟩
      · exact ⟨(⟨b, off, none⟩ : Addr).add l.length, cap - l.length, by rw [if_neg hh]; simp⟩
  · right
    rcases h with ⟨rfl, _⟩ | ⟨b, off, c, hv, hlt, hcell⟩
    · simp at hk; simp [hk] at he
    · simp at hv; obtain ⟨rfl, rfl⟩ := hv
      rw [if_neg (by omega)]
      refine ⟨b, off + k, cap - k, ?_, hlt, fun j hj => ?_⟩
      · have : (⟨b, off, none⟩ : Addr).add k = ⟨b, off + k, none⟩ := by unfold Addr.add; split <;> simp_all
        simp [this]
      · simp at hj
        rw [show off + k + j = off + (k + j) from by omega, hcell (k + j) (by omega)]
        simp [List.getD_eq_getElem?_getD]
theorem Ints.cutAt {w : World} {K : IntKind} {b o cap : Nat} {l : List Int} (h : Ints w K (.slice (some ⟨b, o, none⟩) l.length cap) l) (hc : l.length ≤ cap) {k : Nat} (hk : k ≤ l.length) :
    Ints w K (.slice (if cap = k then some ⟨b, o, none⟩ else some ⟨b, o + k, none⟩) (l.length - k) (cap - k)) (l.drop k) := by
  have := Ints.cut h hc hk
  have e : (⟨b, o, none⟩ : Addr).add k = ⟨b, o + k, none⟩ := by unfold Addr.add; split <;> simp_all
  simpa [e] using this

theorem once_same {l m : List Int} {k : Nat} (hs : l.length = m.length) (hk : k < l.length) (hp : pre l m = k) : onceLe l m = decide (l.drop (k + 1) = m.drop (k + 1)) := by
  unfold onceLe; rw [if_neg (by omega), if_pos hs, hp]; simp [hk]
theorem once_one {l m : List Int} {k : Nat} (hs : l.length + 1 = m.length) (hp : pre l m = k) : onceLe l m = decide (l.drop k = m.drop (k + 1)) := by
  unfold onceLe; rw [if_neg (by omega), if_neg (by omega), hp]
theorem once_end {l m : List Int} (hs : l.length = m.length) (hp : pre l m = l.length) : onceLe l m = false := by
  unfold onceLe; rw [if_neg (by omega), if_pos hs, hp]; simp

set_option maxRecDepth 100000 in
set_option maxHeartbeats 2000000 in
theorem onceLe_any (a1 a2 : Option Addr) (c1 c2 : Nat) (l m : List Int) (w : World) (h1 : Ints w .i32 (.slice a1 l.length c1) l) (h2 : Ints w .i32 (.slice a2 m.length c2) m) (hc1 : l.length ≤ c1) (hc2 : m.length ≤ c2) (hl : l.length ≤ m.length) :
    Calls Tryd.prog 8 #[.slice a1 l.length c1, .slice a2 m.length c2] w fun e w' => e = .returned (.bool (onceLe l m)) ∧ Below w.heap.size w w' := by
  have g1 := h1.1
  have g2 := h2.1
  have H1 := Lib.hid h1
  have H2 := Lib.hid h2
  clear h1 h2
  have hle : (l.length : Int) ≤ (m.length : Int) := by omega
  by_cases hlong : (l.length : Int) + 1 < (m.length : Int)
  · go_enter Tryd.func8, Tryd.ntmps8
    go_wp2_with fail
    go_ret
    exact ⟨ret_bool (by unfold onceLe; rw [if_pos (by omega)]), Below.refl _ _⟩
  · go_enter Tryd.func8, Tryd.ntmps8
    go_wp2_with fail
    go_loopw [5] (fun i wr => ∃ k : Nat, i = .int .i64 k ∧ k ≤ l.length ∧ Hid (l.take k = m.take k) ∧ Hid (Below w.heap.size w wr)) (fun i _ => l.length - (intOf i).toNat)
    case atStart => exact ⟨0, rfl, Nat.zero_le _, by simp [Hid], Below.refl _ _⟩
    case round =>
      obtain ⟨k, rfl, hk, HT, HW⟩ := hrel
      have z0 : (0 : Int) ≤ (k : Int) := by omega
      have z1 : (0 : Int) ≤ (k : Int) + 1 := by omega
      have z4 : ((k : Int) + 1).toNat = k + 1 := by omega
      have wk : IntKind.i64.wrap ((k : Int) + 1) = (k : Int) + 1 := IntWalk.i64_in _ (by omega)
      by_cases hlt : (k : Int) < (l.length : Int)
      · have z2 : (k : Int) + 1 ≤ (l.length : Int) := by omega
        have z3 : (k : Int) + 1 ≤ (m.length : Int) := by omega
        have z5 : (k : Int) ≤ (l.length : Int) := by omega
        obtain ⟨x, hx⟩ : ∃ x, l.getD k 0 = x := ⟨_, rfl⟩
        obtain ⟨y, hy⟩ : ∃ y, m.getD k 0 = y := ⟨_, rfl⟩
        obtain ⟨b1, o1, rfl, _, cx⟩ := Ints.at_ (H1.out.below HW.out) (k := k) (by omega) hx
        obtain ⟨b2, o2, rfl, _, cy⟩ := Ints.at_ (H2.out.below HW.out) (k := k) (by omega) hy
        by_cases he : x = y
        · have hne : (x == y) = true := by rw [he]; simp
          have HX := Lib.hid hx
          have HY := Lib.hid hy
          have HE := Lib.hid he
          clear hx hy he
          go_wp2_with fail
          go_quiet (fail)
          go_wp2_with fail
          exact ⟨⟨k + 1, by go_num, by omega, take_next HT.out (by omega) (by omega) (by rw [HX.out, HY.out, HE.out]), below_drewN HW.out _⟩, by simp [intOf]; omega⟩
        · have hne : (x == y) = false := by rw [beq_eq_false_iff_ne]; exact he
          have HP := Lib.hid (pre_at (by omega) (by omega) HT.out hx hy he)
          clear hx hy he
          have hkp : k < l.length := by omega
          obtain ⟨P1, hP1⟩ : ∃ P : Option Addr, (if c1 = k + 1 then some ⟨b1, o1, none⟩ else some ⟨b1, o1 + (k + 1), none⟩) = P := ⟨_, rfl⟩
          obtain ⟨P2, hP2⟩ : ∃ P : Option Addr, (if c2 = k + 1 then some ⟨b2, o2, none⟩ else some ⟨b2, o2 + (k + 1), none⟩) = P := ⟨_, rfl⟩
          have hq0 : ¬ c1 = k := by omega
          have hin1 : Hid (∀ n, Ints (wr.drewN n) .i32 (.slice P1 (l.length - (k + 1)) (c1 - (k + 1))) (l.drop (k + 1))) :=
            fun n => by rw [← hP1]; exact Ints.cutAt (H1.out.below (below_drewN HW.out n)) hc1 (by omega)
          have hin0 : Hid (∀ n, Ints (wr.drewN n) .i32 (.slice (some ⟨b1, o1 + k, none⟩) (l.length - k) (c1 - k)) (l.drop k)) :=
            fun n => by have := Ints.cutAt (H1.out.below (below_drewN HW.out n)) hc1 (k := k) (by omega); rwa [if_neg hq0] at this
          have hin2 : Hid (∀ n, Ints (wr.drewN n) .i32 (.slice P2 (m.length - (k + 1)) (c2 - (k + 1))) (m.drop (k + 1))) :=
            fun n => by rw [← hP2]; exact Ints.cutAt (H2.out.below (below_drewN HW.out n)) hc2 (by omega)
          by_cases hs : l.length = m.length
          · have hs' : ((l.length : Int) == (m.length : Int)) = true := by rw [beq_iff_eq]; omega
            have HR := Lib.hid (once_same hs hkp HP.out)
            clear hs
            go_wp2_with fail
            go_quiet (fail)
            go_wp2_with fail
            go_region_held3 (fun _ => True) (trivial) ((go_at_call 20; refine (same_any _ _ _ _ _ (hin1.out _) (hin2.out _)).mono ?_; rintro e w1 ⟨rfl, hb1⟩))
            go_wp2_with fail
            go_ret
            exact ⟨ret_bool HR.out.symm, (below_drewN HW.out _).trans (hb1.mono HW.out.size)⟩
          · have hs' : ((l.length : Int) == (m.length : Int)) = false := by rw [beq_eq_false_iff_ne]; omega
            have HR := Lib.hid (once_one (by omega) HP.out)
            clear hs
            go_wp2_with fail
            go_quiet (fail)
            go_wp2_with fail
            go_region_held3 (fun _ => True) (trivial) ((go_at_call 20; refine (same_any _ _ _ _ _ (hin0.out _) (hin2.out _)).mono ?_; rintro e w1 ⟨rfl, hb1⟩))
            go_wp2_with fail
            go_ret
            exact ⟨ret_bool HR.out.symm, (below_drewN HW.out _).trans (hb1.mono HW.out.size)⟩
      · have hke : k = l.length := by omega
        have hd : decide (k < l.length) = false := by simp; omega
        have HP := Lib.hid (pre_end hk (by omega) HT.out hke)
        by_cases hs : l.length = m.length
        · have hs' : ((l.length : Int) == (m.length : Int)) = true := by rw [beq_iff_eq]; omega
          have HR := Lib.hid (once_end hs (HP.out.trans hke))
          clear hs hke
          go_wp2_with fail
          go_quiet (fail)
          go_wp2_with fail
          go_quiet (fail)
          go_wp2_with fail
          go_ret
          exact ⟨ret_bool HR.out.symm, below_drewN (below_drewN HW.out _) _⟩
        · have hs' : ((l.length : Int) == (m.length : Int)) = false := by rw [beq_eq_false_iff_ne]; omega
          have HR := Lib.hid (once_one (by omega) HP.out)
          have z3 : (k : Int) + 1 ≤ (m.length : Int) := by omega
          have z5 : (k : Int) ≤ (l.length : Int) := by omega
          obtain ⟨b2, o2, rfl, _, _⟩ := Ints.at_ (H2.out.below HW.out) (k := 0) (by omega) rfl
          obtain ⟨P1, hP1⟩ : ∃ P : Option Addr, (if c1 = k then a1 else a1.map fun x => x.add k) = P := ⟨_, rfl⟩
          obtain ⟨P2, hP2⟩ : ∃ P : Option Addr, (if c2 = k + 1 then some ⟨b2, o2, none⟩ else some ⟨b2, o2 + (k + 1), none⟩) = P := ⟨_, rfl⟩
          have hin0 : Hid (∀ n, Ints (wr.drewN n) .i32 (.slice P1 (l.length - k) (c1 - k)) (l.drop k)) :=
            fun n => by rw [← hP1]; exact Ints.cut (H1.out.below (below_drewN HW.out n)) hc1 (by omega)
          have hin2 : Hid (∀ n, Ints (wr.drewN n) .i32 (.slice P2 (m.length - (k + 1)) (c2 - (k + 1))) (m.drop (k + 1))) :=
            fun n => by rw [← hP2]; exact Ints.cutAt (H2.out.below (below_drewN HW.out n)) hc2 (by omega)
          clear hs hke
          go_wp2_with fail
          go_quiet (fail)
          go_wp2_with fail
          go_region_held3 (fun _ => True) (trivial) ((go_at_call 20; refine (same_any _ _ _ _ _ (hin0.out _) (hin2.out _)).mono ?_; rintro e w1 ⟨rfl, hb1⟩))
          go_wp2_with fail
          go_ret
          exact ⟨ret_bool HR.out.symm, (below_drewN HW.out _).trans (hb1.mono HW.out.size)⟩
end Go.Proofs.YtkgmikglifmenaaDoor.E
