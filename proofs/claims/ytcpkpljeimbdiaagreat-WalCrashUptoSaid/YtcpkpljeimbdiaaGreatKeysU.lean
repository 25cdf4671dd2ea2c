/-
  The keys of a map (of type uint64), in order.
-/
import Derived.Test.YtcpkpljeimbdiaaGreatMapF
import Derived.Test.YtcpkpljeimbdiaaGreatPdqJU
import Derived.RangeFuncNested
import Derived.RangeFuncBound
import Derived.RangeFuncCalls
import Derived.RangeFuncLeaves
import Derived.RangeFuncFrom
import Derived.RangeFuncStops
import Derived.RangeFuncBox
import Derived.Shelf.Abstract
import Derived.Shelf.RegionOpen
import Derived.OwnWalkIn
import Derived.TacticsInMore
import Derived.LoopNIn
import Derived.LoopIn
import Derived.Sort.MapsRangeIn
import Derived.Maps.RangeWalk
import Derived.Maps.AppendAt
import Derived.RegionIn
namespace Go.Proofs.YtcpkpljeimbdiaaGreat.QU
open Go.RowKit Go.Shelf Go.Maps
open Aid
set_option linter.unusedSimpArgs false
set_option linter.unusedVariables false
attribute [local go_sem] Oper.semAt_some

theorem keyed : Keyed Tryz.prog 37 := int_keyed Tryz.underlying37
/-- what has come -/
def Got (D : DataW Value) (left : Lit → Bool) (xs : List Int) : Prop := xs.Nodup ∧ (∀ x ∈ xs, (Lit.int .u64 x).wf = true) ∧ ∀ x, (Lit.int .u64 x).wf = true → (x ∈ xs ↔ (has D (.int .u64 x) = true ∧ left (.int .u64 x) = false))
theorem Got.start (D : DataW Value) : Got D (has D) [] := ⟨List.nodup_nil, fun x hx => (nomatch hx), fun x _ => by cases has D (.int .u64 x) <;> simp⟩
theorem Got.step {D : DataW Value} {left : Lit → Bool} {xs : List Int} (h : Got D left xs) {x : Int} {y : DataW Value} (hw : (Lit.int .u64 x).wf = true) (hlk : left (.int .u64 x) = true) (hat : ∀ zd, D.atKey (.int .u64 x) zd = y) : Got D (fun z => left z && !z.sameKey (.int .u64 x)) (xs ++ [x]) := by
  have hhas : has D (.int .u64 x) = true := has_true_of_atKey hat
  have hnew : x ∉ xs := fun hx => by have := ((h.2.2 x hw).1 hx).2; rw [hlk] at this; cases this
  refine ⟨List.nodup_append.2 ⟨h.1, by simp, fun a ha b hb => by simp at hb; subst hb; exact fun e => hnew (e ▸ ha)⟩, fun z hz => ?_, fun y hy => ?_⟩
  · rcases List.mem_append.1 hz with hz | hz
    · exact h.2.1 z hz
    · simp at hz; rw [hz]; exact hw
  · by_cases hyx : y = x
    · subst hyx; simp [hhas, Lit.sameKey]
    · simp [h.2.2 y hy, hyx, Lit.sameKey]
/-- the keys of a map, each once -/
def KeysOf (f : Int → Option Value) (xs : List Int) : Prop := xs.Nodup ∧ (∀ x ∈ xs, (Lit.int .u64 x).wf = true) ∧ ∀ x, (Lit.int .u64 x).wf = true → (x ∈ xs ↔ (f x).isSome = true)

set_option maxRecDepth 100000 in
set_option maxHeartbeats 1000000 in
theorem keys1_in (F : Fence) (n : Nat) (hf : F.fn 62) (hro : F.round = none) (hn : 1 ≤ n) (l Bm b c : Nat) (f : Int → Option Value) (J Jx : List Int → World → Prop)
    (W : World) (hJ : AbidesFrom W.heap.size J) (hm : W.cell? ⟨Bm, 0, none⟩ = some (.map (some b))) (hM : MapF Tryz.prog 37 .u64 W b f c)
    (hY : ∀ pre x W1, J pre W1 → pre.length < c → YieldAt F (n - 1) Tryz.prog l #[.int .u64 x] W1 fun e W' => (e = .returned (.bool true) ∧ J (pre ++ [x]) W' ∧ KeepsWalks W1 W') ∨ (e = .returned (.bool false) ∧ Jx (pre ++ [x]) W')) (h0 : J [] W) :
    CallsIn F n Tryz.prog 62 #[.func (.yield l) #[] #[], .pointer (some ⟨Bm, 0, none⟩)] W fun e W' => (∃ v, e = .returned v) ∧ ((∃ xs : List Int, (KeysOf f xs ∧ xs.length ≤ c) ∧ J xs W') ∨ (∃ pre : List Int, True ∧ Jx pre W')) := by
  obtain ⟨D, hown, hsz, hlook⟩ := hM
  refine callsIn_of_wp Tryz.func62 rfl hf ?_ hro
  simp only [Tryz.ntmps62, List.size_toArray, List.length_cons, List.length_nil, Nat.reduceAdd, Nat.reduceSub, Array.replicate_succ, Array.replicate_zero, List.push_toArray, List.append_toArray, List.nil_append, List.cons_append]
  gi_wp2_with (first
    | (gi_at_range; refine wpListIn_range_own _ rfl _ 45 rfl 37 62 keyed Tryz.underlying45 _ b c _ rfl hown ?_; intro w0 hrg0 hg0 hs0)
    | gi_in)
  go_frame
  gi_loopw [3] (fun _ wr => ∃ (left : Lit → Bool) (cnt : Nat) (xs : List Int), wr.ranges Tryz.prog 37 rid b W.heap.size c D left cnt ∧ xs.length + cnt ≤ Maps.size D ∧ Got D left xs ∧ J xs wr)
    (fun _ wr => wr.rangeLeft b W.heap.size)
  case atStart =>
    exact ⟨_, _, [], hrg0, by simp, Got.start D, hJ [] W w0 none h0 hg0 (fun r e => by cases e)⟩
  case round =>
    obtain ⟨left, cnt, xs, hrg, hcs, hC, hJs⟩ := hrel
    gi_wp2_with (first
      | (gi_at_next; refine wpListIn_next_ranges _ rfl _ rfl 37 keyed rid (Value.int .u64) id (fun key kl hk => by obtain ⟨x, hx, _⟩ := Maps.keyOf_int_inv Tryz.underlying37 hk; exact ⟨x, hx⟩) (fun v _ _ => ⟨v, rfl⟩) b W.heap.size c _ _ _ rfl hrg ?_ ?_)
      | gi_in)
    · intro hc0 hl0
      gi_wp2
      go_end0
      refine ⟨⟨_, rfl⟩, .inl ⟨xs, ⟨⟨hC.1, hC.2.1, fun x hx => ?_⟩, by omega⟩, hJs⟩⟩
      rw [hC.2.2 x hx, hl0, (hlook x hx).1]
      simp
    · intro x c' kl yd yp w2 cnt2 hkey hlk hv hat hrg2 hlt hg2 hs2 hen
      obtain ⟨x', ex, rfl, hwf⟩ := Maps.keyOf_int_inv Tryz.underlying37 hkey
      obtain rfl : x = x' := by injection ex
      have hJ2 : J xs w2 := hJ xs wr w2 (some W.heap.size) hJs hg2 (fun r e => by cases e; exact ⟨Nat.le_refl _, hrg.iter_walk⟩)
      obtain ⟨fn, tmps, assign, body, hy, hR⟩ := hY xs x w2 hJ2 (by omega)
      clear hs2
      gi_wp2
      refine hR.mono ?_
      rintro e W3 (⟨rfl, hJ3, hk3⟩ | ⟨rfl, hJx⟩)
      rotate_left
      · gi_wp2
        first | go_end0 | ((try simp only [Exit.inBlock, Exit.then]); refine bodyPost_ret (results_none rfl _ _ _) rfl ?_)
        exact ⟨⟨_, rfl⟩, .inr ⟨_, trivial, hJx⟩⟩
      gi_wp2
      have hrg3 := hrg2.of_walks hk3
      go_roundw
      case rel => exact ⟨_, cnt2, xs ++ [x], hrg3, by simp; omega, hC.step hwf hlk hat, hJ3⟩
      case measure => rw [hrg3.left_eq, hrg.left_eq]; exact hlt
theorem keys_stops (F : Fence) (n : Nat) (hf : F.fn 62) (hro : F.round = none) (hn : 1 ≤ n) (Bm b c : Nat) (f : Int → Option Value) (w : World) (hBm : Bm < w.heap.size)
    (hm : w.cell? ⟨Bm, 0, none⟩ = some (.map (some b))) (hM : MapF Tryz.prog 37 .u64 w b f c) :
    SeqStops F n Tryz.prog 62 #[.pointer (some ⟨Bm, 0, none⟩)] (Value.int .u64) (fun xs => KeysOf f xs ∧ xs.length ≤ c) (fun _ => True) c w := fun l J Jx W hW hJ hJx hY h0 =>
  keys1_in F n hf hro hn l Bm b c f J Jx W hJ ((hW.cell (p := ⟨Bm, 0, none⟩) hBm).trans hm) (hM.kept (hW.block b hM.lt)) hY h0
theorem info_num : (Tryz.prog.info? 37).map (fun i => (i.zero, i.size, i.bytes)) = some (some (.int .u64 0), 1, 8) := by kernel_rfl

set_option maxRecDepth 100000 in
set_option maxHeartbeats 2000000 in
theorem appendSeq_in (F : Fence) (n : Nat) (hf : F.fn 70) (hro : F.round = none) (hn : 2 ≤ n) (g : Nat) (lb : Array Value) (hFg : F.fn g) (eg : ∀ args w, (callFunc g args).run Tryz.prog w = .ok (.enter g args) w)
    (S : List Int → Prop) (N : Nat) (hN : N ≤ 4398046511104) (w : World) (hseq : SeqStops F (n - 1) Tryz.prog g lb (Value.int .u64) S (fun _ => True) N w) :
    CallsIn F n Tryz.prog 70 #[.slice none 0 0, .func (.func g) #[] lb] w fun e w' => ∃ (v : Value) (xs : List Int), e = .returned v ∧ S xs ∧ w'.ownsRow w.heap.size 37 1 v xs.length (xs.map (Value.int .u64)) ∧ (v = .slice none 0 0 ↔ xs = []) ∧ Below w.heap.size w w' := by
  have h1 : 1 ≤ n := by omega
  obtain ⟨i0, hi, hz0, hz1, hz2⟩ := info_parts info_num
  have hmx : (4398046511104 : Nat) + 1 ≤ maxLen := by unfold maxLen; decide
  refine callsIn_of_wp_marks Tryz.func70 rfl hf ?_ hro
  simp only [Tryz.ntmps70, List.size_toArray, List.length_cons, List.length_nil, Nat.reduceAdd, Nat.reduceSub, Array.replicate_succ, Array.replicate_zero, List.push_toArray, List.append_toArray, List.nil_append, List.cons_append]
  gi_wp2
  have hB0 : Below w.heap.size w (w.alloc (.cells #[.slice none 0 0] 60)) := (Below.refl _ _).alloc (Nat.le_refl _) _
  have bO : Boxed (w.alloc (.cells #[.slice none 0 0] 60)) w.heap.size 60 (.slice none 0 0) := Boxed.new _ _ _
  refine wpIn_rangeFunc_ownF hro h1 (gf := g) (lb := lb) rfl hFg eg (encs := fun x => #[Value.int .u64 x]) (Kp := KeepsWalks) (S := S) (Sp := fun _ => True) (N := N) (w0 := w)
    hseq walksK_t walksK_b hB0 (fun _ => rfl)
    (fun pre W => (∃ v, Boxed W w.heap.size 60 v ∧ W.ownsRow w.heap.size 37 1 v pre.length (pre.map (Value.int .u64)) ∧ (v = .slice none 0 0 ↔ pre = [])) ∧ Below w.heap.size w W)
    (fun _ _ _ => False)
    (OwnFrom.and (Own.from (holdsRow_own w.heap.size w.heap.size 60 37 1 (fun pre : List Int => pre.length) (fun pre => pre.map (Value.int .u64)) (fun pre v => v = .slice none 0 0 ↔ pre = [])) _) (ownFrom_below (Nat.le_refl _) (by simp)))
    (fun _ _ _ _ _ hs _ _ => hs)
    ⟨⟨_, bO, World.ownsRow_nil _ _ _ _, by simp⟩, hB0⟩
    (fun x => { tmps := #[.slice none 0 0, .func (.func g) #[] lb, .pointer (some ⟨w.heap.size, 0, none⟩), undef, .slice none 0 0, .int .u64 x, .func (.func g) #[] lb, .int .u64 x, undef, undef, undef, undef, undef], defers := [] }) ?assign ?body ?done ?stop
  case assign =>
    intro l x W K hK
    gi_wp2
    exact hK
  case body =>
    rintro l pre x W ⟨⟨v, hv, hrow, hnil⟩, hB⟩ hlt
    have hc := hv.cell
    have hle : w.heap.size ≤ w.heap.size := Nat.le_refl _
    gi_wp2_with (gi_at_builtin; refine wpListIn_append_own _ rfl _ _ 60 rfl w.heap.size 37 i0 (.int .u64 0) 1 8 Tryz.underlying60 hi hz0 hz1 hz2 rfl (by decide) _ _ _ rfl (hrow.alloc _) ⟨W.heap.size, 0, none⟩ 1 1 [.int .u64 x] rfl rfl (cell_one_new _ _ _) (by simp [Value.oneCell']) (by omega) (by omega) (by have := hB.size; simp; omega) ?_; intro v' w1 hown' hgrow _; obtain ⟨g', cap', rfl⟩ := ownsRow_succ hown'; obtain ⟨hv1, hv2, hr2, hk2, hb2⟩ := hv.appended (by decide) hrow hB.size hle hown' hgrow; have hc1 := hv1.cell; have hf1 := hv1.frozen)
    exact ⟨hk2, hk2.walks, ⟨_, hv2, by simpa using hr2, by simp⟩, hB.trans hb2⟩
  case done =>
    rintro D ys W hD hS ⟨⟨v, hv, hrow, hnil⟩, hB⟩ hK
    have hc := hv.cell
    gi_wp2
    refine ⟨by simp, .inl ⟨_, _, rfl, run_takeDeferred hK, ?_⟩⟩
    exact ⟨_, results_tmp rfl _ _ _, v, ys, rfl, hS, ownsRow_putObj hrow _ hK rfl, hnil, hB.trans (belowK_b (w := w) (Nat.le_refl _) W D _ _ (by simp at hD; omega) hK rfl rfl)⟩
  case stop =>
    rintro D c pre W _ _ h _
    exact h.elim

theorem row_of {w : World} {base : Nat} {v : Value} {xs : List Int} (h : w.ownsRow base 37 1 v xs.length (xs.map (Value.int .u64))) : (v = .slice none 0 0 ∧ xs = []) ∨ ∃ g cap, v = .slice (some ⟨g, 0, none⟩) xs.length cap ∧ base ≤ g ∧ xs.length ≤ cap ∧ Row w g xs.toArray := by
  rcases h.2 with ⟨rfl, h0⟩ | ⟨g, cap, cur, rfl, hb, hg, h1, h2, h3, h4⟩
  · exact .inl ⟨rfl, List.eq_nil_of_length_eq_zero h0⟩
  · refine .inr ⟨g, cap, rfl, hb, h1, ⟨(cur.toList.drop xs.length).toArray, ?_⟩⟩
    have e : numA xs.toArray ++ (cur.toList.drop xs.length).toArray = cur := by
      apply Array.ext'
      rw [Nat.mul_one] at h4
      have e2 : (numA xs.toArray).toList = xs.map (Value.int .u64) := by simp [numA]
      rw [Array.toList_append, e2, ← h4]
      exact List.take_append_drop _ _
    unfold Blk
    rw [e]; exact hg
/-- nothing is sorted -/
theorem pdq_nil (lim : Int) (w : World) : Calls Tryz.prog 71 #[.slice none 0 0, .int .i64 0, .int .i64 0, .int .i64 lim] w fun e w' => e = .returned (.tuple #[]) ∧ w' = w := by
  have hins : Calls Tryz.prog 83 #[.slice none 0 0, .int .i64 0, .int .i64 0] w fun e w' => e = .returned (.tuple #[]) ∧ w' = w := by
    go_enter Tryz.func83, Tryz.ntmps83
    go_wp2_with fail
    refine wp_loop_rounds 1 ?_
    rw [rounds_succ]
    go_wp2_with fail
    go_end0
    exact ⟨rfl, rfl⟩
  go_enter Tryz.func71, Tryz.ntmps71
  go_wp2_with fail
  refine wp_loop_rounds 1 ?_
  rw [rounds_succ]
  go_wp2_with (go_at_call 83; refine hins.mono ?_; rintro e w1 ⟨rfl, rfl⟩)
  (try simp only [Exit.inBlock, Exit.then])
  refine bodyPost_ret (results_none rfl _ _ _) rfl ?_
  exact ⟨rfl, rfl⟩
theorem sort_nil (w : World) : Calls Tryz.prog 61 #[.slice none 0 0] w fun e w' => e = .returned (.tuple #[]) ∧ w' = w := by
  go_enter Tryz.func61, Tryz.ntmps61
  go_wp2_with (first
    | (go_at_call 65; refine (len_any 0 _ (by omega)).mono ?_; rintro e w1 ⟨⟨k, rfl, _⟩, rfl⟩)
    | (go_at_call 71; refine (pdq_nil k _).mono ?_; rintro e w1 ⟨rfl, rfl⟩))
  first | go_end0 | ((try simp only [Exit.inBlock, Exit.then]); refine bodyPost_ret (results_none rfl _ _ _) rfl ?_)
  exact ⟨rfl, rfl⟩
/-- the sorted keys lie in a new slice -/
def SortedAt (w w' : World) (v : Value) (xs : List Int) : Prop := (v = .slice none 0 0 ∧ xs = []) ∨ ∃ g cap, v = .slice (some ⟨g, 0, none⟩) xs.length cap ∧ w.heap.size ≤ g ∧ xs.length ≤ cap ∧ Row w' g xs.toArray
theorem wide_room (k : Nat) : Fence.wide.room k := fun d h => (nomatch h)
set_option maxRecDepth 100000 in
set_option maxHeartbeats 2000000 in
theorem sorted_any (Bm b c : Nat) (f : Int → Option Value) (w : World) (hc : c ≤ 4398046511104) (hBm : Bm < w.heap.size) (hm : w.cell? ⟨Bm, 0, none⟩ = some (.map (some b))) (hM : MapF Tryz.prog 37 .u64 w b f c) :
    Calls Tryz.prog 43 #[.func (.func 62) #[] #[.pointer (some ⟨Bm, 0, none⟩)]] w fun e w' => ∃ v xs, e = .returned v ∧ (KeysOf f xs ∧ xs.length ≤ c) ∧ SortedAt w w' v (srt xs) ∧ Below w.heap.size w w' := by
  have happ := (appendSeq_in Fence.wide 2 trivial rfl (Nat.le_refl 2) 62 #[.pointer (some ⟨Bm, 0, none⟩)] trivial (enters_of Tryz.func62 (by kernel_rfl) rfl) (fun xs => KeysOf f xs ∧ xs.length ≤ c) c hc w (keys_stops Fence.wide 1 trivial rfl (Nat.le_refl 1) Bm b c f w hBm hm hM)).calls wide_room
  have hcol : Calls Tryz.prog 60 #[.func (.func 62) #[] #[.pointer (some ⟨Bm, 0, none⟩)]] w fun e w' => ∃ (v : Value) (xs : List Int), e = .returned v ∧ (KeysOf f xs ∧ xs.length ≤ c) ∧ w'.ownsRow w.heap.size 37 1 v xs.length (xs.map (Value.int .u64)) ∧ Below w.heap.size w w' := by
    go_enter Tryz.func60, Tryz.ntmps60
    go_wp2_with (go_at_call 70; refine happ.mono ?_; rintro e w1 ⟨v, xs, rfl, hS, hown, _, hb⟩)
    go_ret
    exact ⟨v, xs, rfl, hS, hown, hb⟩
  clear happ
  go_enter Tryz.func43, Tryz.ntmps43
  go_wp2_with fail
  refine hcol.mono ?_
  rintro e w1 ⟨v, xs, rfl, ⟨hS, hSl⟩, hown, hb⟩
  have hrow := row_of hown
  have hb' := Lib.hid hb
  rcases hrow with ⟨rfl, rfl⟩ | ⟨g, cap, rfl, hg, hcap, hR⟩
  · go_wp2_with (go_at_call 61; refine (sort_nil _).mono ?_; rintro e w2 ⟨rfl, rfl⟩)
    go_ret
    exact ⟨_, [], rfl, ⟨hS, hSl⟩, .inl ⟨rfl, by simp [srt]⟩, hb'.out⟩
  · have hsort := sort_any g cap xs.length xs.toArray w1 hR (by simp) (by omega)
    have hsl : (srt xs).length = xs.length := by unfold srt; exact List.length_mergeSort _
    go_wp2_with (go_at_call 61; refine hsort.mono ?_; rintro e w2 ⟨rfl, hR2, hO2⟩)
    go_ret
    exact ⟨.slice (some ⟨g, 0, none⟩) xs.length cap, xs, rfl, ⟨hS, hSl⟩, .inr ⟨g, cap, by rw [hsl], hg, by rw [hsl]; exact hcap, hR2⟩, hO2.below hb'.out hb'.out.size hg⟩
end Go.Proofs.YtcpkpljeimbdiaaGreat.QU
