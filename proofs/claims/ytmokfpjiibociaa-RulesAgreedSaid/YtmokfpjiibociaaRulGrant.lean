/-
  The walk of Grant, of the program and of the reference.
-/
import Derived.Test.YtmokfpjiibociaaRulAgreed
import Derived.Test.YtmokfpjiibociaaAidC
import Derived.Laws.ResultCell
namespace Go.Proofs.Ytmokfpjiibociaa.R
open Go.RowKit
open Aid
set_option linter.unusedSimpArgs false
set_option linter.unusedVariables false

theorem results_cellT {P : Program} {fn : Func} {p u : Tmp} {ty : TypeId} (h : fn.results = #[.cell p ty, .tmp u]) (tmps : Array Value) (w : World) (g : Nat) (hp : tmps.getD p undef = .pointer (some ⟨g, 0, none⟩)) (b : Value) (hu2 : tmps.getD u undef = b)
    (T : TypeId) (vs : Array Value) (hb : Blk w g T vs) (d : TypeDesc) (hu : P.underlying ty = some d) (hd : aggD d = true) (hi : (P.info? ty).map (·.size) = some vs.size) :
    (results fn tmps).run P w = .ok (.tuple #[.agg vs, b]) w := by
  rw [results_cell_tmp h, hu2]
  rw [hp]
  simp [asAddr, Result.andThen, run_loadVar_cells w ty d hu hd g 0 vs hi hb.cells]

/-- a state and a vote as cells -/
def hardA (t v : Int) : Array Value := #[.int .u64 t, .int .i64 v]
theorem hard_0 (t v : Int) : (hardA t v)[0]? = some (.int .u64 t) := rfl
theorem hard_1 (t v : Int) : (hardA t v)[1]? = some (.int .i64 v) := rfl
theorem hard_all (t v : Int) : (hardA t v).all (·.oneCell') = true := by simp [hardA, Value.oneCell']
theorem info_hard : (Try.prog.info? 30).map (fun i => (i.zero, i.size)) = some (some (.agg (hardA 0 0)), 2) := by kernel_rfl
theorem size_hard (t v : Int) : (Try.prog.info? 30).map (·.size) = some (hardA t v).size := by
  have h := info_hard
  cases hq : Try.prog.info? 30 with
  | none => rw [hq] at h; cases h
  | some i => rw [hq] at h; simp at h ⊢; exact h.2
theorem zero_hard : ∃ i, Try.prog.info? 30 = some i ∧ i.zero = some (.agg (hardA 0 0)) := by
  have h := info_hard
  cases hq : Try.prog.info? 30 with
  | none => rw [hq] at h; cases h
  | some i => rw [hq] at h; simp at h; exact ⟨i, rfl, h.1⟩

/-- what Grant tells -/
def grantF (ht hv t c : Int) (n : Bool) : (Int × Int) × Bool :=
  if t < ht then ((ht, hv), false) else
  let v := if ht < t then -1 else hv
  if n = true ∧ (v = -1 ∨ v = c) then ((t, c), true) else ((t, v), false)

theorem two_blk (w : World) (c d : Array Value) (t : TypeId) : Blk ((w.alloc (.cells c t)).alloc (.cells d t)) (w.heap.size + 1) t d := by
  have e : (w.alloc (.cells c t)).heap.size = w.heap.size + 1 := by simp
  rw [← e]; exact Blk.alloc_new _ _ _
theorem two_below (w : World) (o p : Obj) : Below w.heap.size w ((w.alloc o).alloc p) := ((Below.refl _ _).alloc (Nat.le_refl _) _).alloc (by simp) _

set_option maxRecDepth 100000 in
set_option maxHeartbeats 2000000 in
theorem grant_any (ht hv t c : Int) (n : Bool) (w : World) :
    Calls Try.prog 18 #[.agg #[.int .u64 ht, .int .i64 hv], .int .u64 t, .int .i64 c, .bool n] w fun e w' => e = .returned (.tuple #[.agg (hardA (grantF ht hv t c n).1.1 (grantF ht hv t c n).1.2), .bool (grantF ht hv t c n).2]) ∧ Below w.heap.size w w' := by
  by_cases h1 : t < ht
  · have HG : Hid (grantF ht hv t c n = ((ht, hv), false)) := by show _ = _; unfold grantF; rw [if_pos h1]
    rw [HG.out]
    clear HG
    go_enter Try.func18, Try.ntmps18
    go_wp2_with fail
    refine bodyPost_ret (results_cellT rfl _ _ (w.heap.size + 1) rfl _ rfl _ _ (two_blk _ _ _ _) _ Try.underlying30 rfl (size_hard _ _)) rfl ?_
    exact ⟨rfl, two_below _ _ _⟩
  · by_cases h2 : ht < t
    · cases n
      · skip
        have HG : Hid (grantF ht hv t c false = ((t, -1), false)) := by show _ = _; simp [grantF, h1, h2]
        rw [HG.out]
        clear HG
        go_enter Try.func18, Try.ntmps18
        go_wp2_with fail
        refine bodyPost_ret (results_cellT rfl _ _ (w.heap.size + 1) rfl _ rfl _ _ (two_blk _ _ _ _) _ Try.underlying30 rfl (size_hard _ _)) rfl ?_
        exact ⟨rfl, two_below _ _ _⟩
      · skip
        have HG : Hid (grantF ht hv t c true = ((t, c), true)) := by show _ = _; simp [grantF, h1, h2]
        rw [HG.out]
        clear HG
        go_enter Try.func18, Try.ntmps18
        go_wp2_with fail
        refine bodyPost_ret (results_cellT rfl _ _ (w.heap.size + 1) rfl _ rfl _ _ (two_blk _ _ _ _) _ Try.underlying30 rfl (size_hard _ _)) rfl ?_
        exact ⟨rfl, two_below _ _ _⟩
    · have he : t = ht := by omega
      subst he
      cases n
      · skip
        have HG : Hid (grantF t hv t c false = ((t, hv), false)) := by show _ = _; simp [grantF]
        rw [HG.out]
        clear HG
        go_enter Try.func18, Try.ntmps18
        go_wp2_with fail
        refine bodyPost_ret (results_cellT rfl _ _ (w.heap.size + 1) rfl _ rfl _ _ (two_blk _ _ _ _) _ Try.underlying30 rfl (size_hard _ _)) rfl ?_
        exact ⟨rfl, two_below _ _ _⟩
      · by_cases hv1 : hv = -1
        · have hb1 : (hv == -1) = true := by rw [beq_iff_eq]; exact hv1
          have hb2' : (hv != -1) = false := by simp [hv1]
          have HG : Hid (grantF t hv t c true = ((t, c), true)) := by show _ = _; simp [grantF, hv1]
          rw [HG.out]
          clear HG
          clear hv1
          go_enter Try.func18, Try.ntmps18
          go_wp2_with fail
          refine bodyPost_ret (results_cellT rfl _ _ (w.heap.size + 1) rfl _ rfl _ _ (two_blk _ _ _ _) _ Try.underlying30 rfl (size_hard _ _)) rfl ?_
          exact ⟨rfl, two_below _ _ _⟩
        · have hb1 : (hv == -1) = false := by rw [beq_eq_false_iff_ne]; exact hv1
          have hb2' : (hv != -1) = true := by simp [hv1]
          by_cases hvc : hv = c
          · have hb3' : (hv == c) = true := by rw [beq_iff_eq]; exact hvc
            have hb4' : (hv != c) = false := by simp [hvc]
            have HG : Hid (grantF t hv t c true = ((t, c), true)) := by show _ = _; simp [grantF, hvc]
            rw [HG.out]
            clear HG
            clear hv1 hvc
            go_enter Try.func18, Try.ntmps18
            go_wp2_with fail
            refine bodyPost_ret (results_cellT rfl _ _ (w.heap.size + 1) rfl _ rfl _ _ (two_blk _ _ _ _) _ Try.underlying30 rfl (size_hard _ _)) rfl ?_
            exact ⟨rfl, two_below _ _ _⟩
          · have hb3' : (hv == c) = false := by rw [beq_eq_false_iff_ne]; exact hvc
            have hb4' : (hv != c) = true := by simp [hvc]
            have HG : Hid (grantF t hv t c true = ((t, hv), false)) := by show _ = _; simp [grantF, hv1, hvc]
            rw [HG.out]
            clear HG
            clear hv1 hvc
            go_enter Try.func18, Try.ntmps18
            go_wp2_with fail
            refine bodyPost_ret (results_cellT rfl _ _ (w.heap.size + 1) rfl _ rfl _ _ (two_blk _ _ _ _) _ Try.underlying30 rfl (size_hard _ _)) rfl ?_
            exact ⟨rfl, two_below _ _ _⟩
end Go.Proofs.Ytmokfpjiibociaa.R
