/-
  What the document's disk tells: Sectors, Areas, Read.
-/
import Derived.Test.YteidmneenfdafaaRefC
import Derived.Test.YteidmneenfdafaaRefCr
import Derived.Test.YteidmneenfdafaaDskSect
import Derived.BigQuiet
namespace Go.Proofs.Yteidmneenfdafaa.R
open Go.RowKit
open Aid K
set_option linter.unusedSimpArgs false
set_option linter.unusedVariables false

/-- one more than the last of an area -/
def sectF (a : Int) (K : Int) (s : RSec) : Int := if s.area = a then s.n + 1 else K
def sectR (l : List RSec) (a : Int) : Int := l.foldl (sectF a) 0
theorem sect_fold (a : Int) : ∀ (l : List RSec) (K : Int), 0 ≤ K → Srt l → (∀ s ∈ l, 0 ≤ s.n) → (∀ s ∈ l, s.area = a → K ≤ s.n) →
    K ≤ l.foldl (sectF a) K ∧ (∀ s ∈ l, s.area = a → s.n < l.foldl (sectF a) K) ∧ (l.foldl (sectF a) K = K ∨ ∃ s ∈ l, s.area = a ∧ l.foldl (sectF a) K = s.n + 1)
  | [], K, _, _, _, _ => ⟨Int.le_refl _, fun s hs => (nomatch hs), .inl rfl⟩
  | x :: l, K, hK, hs, hn, hk => by
    obtain ⟨h1, h2⟩ := List.pairwise_cons.1 hs
    rw [List.foldl_cons]
    by_cases hx : x.area = a
    · have e : sectF a K x = x.n + 1 := if_pos hx
      rw [e]
      have hx0 := hn x (List.mem_cons_self ..)
      have hxk := hk x (List.mem_cons_self ..) hx
      obtain ⟨g1, g2, g3⟩ := sect_fold a l (x.n + 1) (by omega) h2 (fun s hs => hn s (List.mem_cons_of_mem _ hs)) (fun s hs ha => by have := h1 s hs; unfold before at this; omega)
      refine ⟨by omega, fun s hs ha => ?_, ?_⟩
      · rcases List.mem_cons.1 hs with hs | hs
        · rw [hs]; omega
        · exact g2 s hs ha
      · rcases g3 with g3 | ⟨s, hs, e1, e2⟩
        · exact .inr ⟨x, List.mem_cons_self .., hx, g3⟩
        · exact .inr ⟨s, List.mem_cons_of_mem _ hs, e1, e2⟩
    · have e : sectF a K x = K := if_neg hx
      rw [e]
      obtain ⟨g1, g2, g3⟩ := sect_fold a l K hK h2 (fun s hs => hn s (List.mem_cons_of_mem _ hs)) (fun s hs => hk s (List.mem_cons_of_mem _ hs))
      refine ⟨g1, fun s hs ha => ?_, ?_⟩
      · rcases List.mem_cons.1 hs with hs | hs
        · rw [hs] at ha; exact absurd ha hx
        · exact g2 s hs ha
      · rcases g3 with g3 | ⟨s, hs, e1, e2⟩
        · exact .inl g3
        · exact .inr ⟨s, List.mem_cons_of_mem _ hs, e1, e2⟩
theorem sect_is {st : DSt} {r : RSt} (h : RelD st r) (a : Int) : SectIs st a (sectR r.l a) := by
  obtain ⟨g1, g2, g3⟩ := sect_fold a r.l 0 (Int.le_refl _) h.srt (fun s hs => (h.wf s hs).2.1) (fun s hs _ => (h.wf s hs).2.1)
  have hF : ∀ x s, st.F a x = some s → ∃ y ∈ r.l, y.area = a ∧ y.n = x := fun x s e => by
    rw [h.F] at e
    obtain ⟨y, hy, e1, e2, _⟩ := find_some e
    exact ⟨y, hy, e1, e2⟩
  refine ⟨g1, ?_, fun x s e => ?_, ?_⟩
  · rcases g3 with g3 | ⟨s, hs, e1, e2⟩
    · unfold sectR; rw [g3]; decide
    · unfold sectR; rw [e2]; have := (h.wf s hs).2.2; omega
  · obtain ⟨y, hy, e1, rfl⟩ := hF x s e
    exact g2 y hy e1
  · rcases g3 with g3 | ⟨s, hs, e1, e2⟩
    · exact .inl g3
    · refine .inr ⟨(s.L, s.sync), ?_⟩
      have := find_mem h.srt hs
      rw [← h.F, e1] at this
      unfold sectR
      rw [e2, show s.n + 1 - 1 = s.n by omega]
      exact this
set_option maxRecDepth 100000 in
set_option maxHeartbeats 2000000 in
theorem rsectors_any (r : RSt) (v : Value) (q : List (RSec × Value)) (a : Int) (w : World) (h : RowIs w v q) (hq : ∀ x ∈ q, 0 ≤ x.1.n ∧ x.1.n < 65536) :
    Calls Try.prog 34 #[.agg (diskR r v), .int .u64 a] w fun e w' => e = .returned (.int .i64 (sectR (q.map (·.1)) a)) ∧ Below w.heap.size w w' := by
  have hlen := h.len
  obtain ⟨av, cv, rfl⟩ := h.slice
  obtain ⟨room, steps, left, armed, dead, l⟩ := r
  unfold diskR
  dsimp only
  obtain ⟨W1, hW1⟩ : ∃ W1, w.alloc (.cells #[.int .i64 room, .int .i64 steps, .int .i64 left, .bool armed, .bool dead, .slice av q.length cv] 40) = W1 := ⟨_, rfl⟩
  obtain ⟨B, hB⟩ : ∃ B, w.heap.size = B := ⟨_, rfl⟩
  have hb1 : Below w.heap.size w W1 := by rw [← hW1]; exact (Below.refl _ _).alloc (Nat.le_refl _) _
  have h1 := h.below hb1
  have hblk : Blk W1 B 40 #[.int .i64 room, .int .i64 steps, .int .i64 left, .bool armed, .bool dead, .slice av q.length cv] := by rw [← hW1, ← hB]; exact Blk.alloc_new _ _ _
  have c5 : W1.cell? ⟨B, 5, none⟩ = some (.slice av q.length cv) := by rw [Blk.cell hblk]; rfl
  have HQ := Lib.hid hq
  clear h hq
  go_enter Try.func34, Try.ntmps34
  go_wp2_with fail
  try rw [hB]
  try rw [hW1]
  go_loopw [5, 6] (fun x5 x6 wr => ∃ (i : Nat) (K : Int), x5 = .int .i64 K ∧ x6 = .int .i64 i ∧ i ≤ q.length ∧ K = sectR ((q.take i).map (·.1)) a ∧ wr = W1) (fun _ x6 _ => q.length - (intOf x6).toNat)
  case atStart => exact ⟨0, 0, rfl, rfl, Nat.zero_le _, rfl, rfl⟩
  case round =>
    obtain ⟨i, K, rfl, rfl, hi, hK, rfl⟩ := hrel
    by_cases hlt : (i : Int) < (q.length : Int)
    · have hiq : i < q.length := by omega
      obtain ⟨x, hx⟩ : ∃ x, q[i]? = some x := ⟨_, List.getElem?_eq_getElem hiq⟩
      obtain ⟨g, rfl, hg, k0, k1, k2, k3⟩ := h1.at_ hx
      have hxn := HQ.out x (List.mem_of_getElem? hx)
      have hstep : sectR ((q.take (i + 1)).map (·.1)) a = if x.1.area = a then x.1.n + 1 else K := by
        rw [List.take_add_one, hx, hK]
        unfold sectR
        simp [sectF]
      have hinext : IntKind.i64.wrap ((i : Int) + 1) = ((i + 1 : Nat) : Int) := IntWalk.i64_in _ (by omega)
      have i0 : (0 : Int) ≤ (i : Int) := by omega
      obtain ⟨y, hy⟩ : ∃ y, x.1.n = y := ⟨_, rfl⟩
      rw [hy] at k1 hstep hxn
      have w2 : IntKind.i64.wrap (y + 1) = y + 1 := IntWalk.i64_in _ (by omega)
      by_cases ha : x.1.area = a
      · rw [ha] at k0
        rw [if_pos ha] at hstep
        have HS := Lib.hid hstep
        clear hstep hK hx hy ha
        go_wp2_with fail
        refine ⟨⟨i + 1, y + 1, rfl, ?_, by omega, HS.out.symm, trivial⟩, ?_⟩
        · first | rfl | congr 1
        · simp [intOf]; omega
      · rw [if_neg ha] at hstep
        obtain ⟨z, hz⟩ : ∃ z, x.1.area = z := ⟨_, rfl⟩
        rw [hz] at k0 ha
        have HS := Lib.hid hstep
        clear hstep hK hx hy hz
        go_wp2_with fail
        refine ⟨⟨i + 1, K, rfl, ?_, by omega, HS.out.symm, trivial⟩, ?_⟩
        · first | rfl | congr 1
        · simp [intOf]; omega
    · have hie : i = q.length := by omega
      subst hie
      rw [List.take_length] at hK
      have HK := Lib.hid hK
      clear hK
      go_wp2_with fail
      go_ret
      exact ⟨ret_i HK.out, by first | exact hb1 | (rw [← hB]; exact hb1)⟩

/-- the areas, as they are gathered -/
def areaF (acc : List Int) (s : RSec) : List Int := if acc.getLast? = some s.area then acc else acc ++ [s.area]
def areaG (l : List RSec) : List Int := l.foldl areaF []
theorem area_acc (l : List RSec) : ∀ (b : Int) (acc : List Int), Srt l → (∀ s ∈ l, b ≤ s.area) →
    l.foldl areaF (acc ++ [b]) = acc ++ (match areasR l with | [] => [b] | c :: t => if b = c then c :: t else b :: c :: t) := by
  induction l with
  | nil => intro b acc _ _; rfl
  | cons x l ih =>
    intro b acc hs hb
    obtain ⟨h1, h2⟩ := List.pairwise_cons.1 hs
    rw [List.foldl_cons]
    have hle : ∀ s ∈ l, x.area ≤ s.area := fun s hs => by have := h1 s hs; unfold before at this; omega
    obtain ⟨t, ht⟩ := areas_head x l
    by_cases hx : b = x.area
    · subst hx
      have e : areaF (acc ++ [x.area]) x = acc ++ [x.area] := by unfold areaF; rw [if_pos (by simp)]
      rw [e, ih x.area acc h2 hle, ht]
      show _ = acc ++ (if x.area = x.area then x.area :: t else x.area :: x.area :: t)
      rw [if_pos rfl, ← ht]
      rfl
    · have e : areaF (acc ++ [b]) x = (acc ++ [b]) ++ [x.area] := by unfold areaF; rw [if_neg (by simp; exact hx)]
      rw [e, ih x.area (acc ++ [b]) h2 hle, ht]
      show _ = acc ++ (if b = x.area then x.area :: t else b :: x.area :: t)
      rw [if_neg hx, ← ht, List.append_assoc]
      rfl
theorem areaG_eq {l : List RSec} (h : Srt l) : areaG l = areasR l := by
  cases l with
  | nil => rfl
  | cons x l =>
    obtain ⟨h1, h2⟩ := List.pairwise_cons.1 h
    have := area_acc l x.area [] h2 (fun s hs => by have := h1 s hs; unfold before at this; omega)
    simp only [List.nil_append] at this
    unfold areaG
    rw [List.foldl_cons]
    have e : areaF [] x = [x.area] := by unfold areaF; rw [if_neg (by simp)]; rfl
    rw [e, this]; rfl
theorem area_len (l : List RSec) : (areaG l).length ≤ l.length := by
  have key : ∀ (l : List RSec) (acc : List Int), (l.foldl areaF acc).length ≤ acc.length + l.length := by
    intro l
    induction l with
    | nil => intro acc; exact Nat.le_refl _
    | cons x l ih =>
      intro acc
      rw [List.foldl_cons]
      refine Nat.le_trans (ih _) ?_
      unfold areaF
      split <;> simp <;> omega
  have := key l []
  simp only [List.length_nil, Nat.zero_add] at this
  exact this
theorem u64_info : ∃ i, Try.prog.info? 27 = some i ∧ i.zero = some (.int .u64 0) ∧ i.size = 1 ∧ i.bytes = 8 := by
  have h : (Try.prog.info? 27).map (fun i => (i.zero, i.size, i.bytes)) = some (some (.int .u64 0), 1, 8) := by kernel_rfl
  obtain ⟨i, hi⟩ : ∃ i, Try.prog.info? 27 = some i := by
    cases e : Try.prog.info? 27 with
    | none => rw [e] at h; cases h
    | some i => exact ⟨i, rfl⟩
  rw [hi] at h
  simp only [Option.map_some, Option.some.injEq, Prod.mk.injEq] at h
  exact ⟨i, hi, h.1, h.2.1, h.2.2⟩
theorem area_step (l : List RSec) (x : RSec) : areaG (l ++ [x]) = areaF (areaG l) x := by unfold areaG; rw [List.foldl_append]; rfl
set_option maxRecDepth 100000 in
set_option maxHeartbeats 4000000 in
theorem rareas_any (r : RSt) (v : Value) (q : List (RSec × Value)) (w : World) (h : RowIs w v q) :
    Calls Try.prog 33 #[.agg (diskR r v)] w fun e w' => ∃ v', e = .returned v' ∧ Ints w' .u64 v' (areaG (q.map (·.1))) ∧ Below w.heap.size w w' := by
  obtain ⟨i0, hi0, hz0, hz1, hz2⟩ := u64_info
  have hlen := h.len
  obtain ⟨av, cv, rfl⟩ := h.slice
  obtain ⟨room, steps, left, armed, dead, l⟩ := r
  unfold diskR
  dsimp only
  obtain ⟨W1, hW1⟩ : ∃ W1, w.alloc (.cells #[.int .i64 room, .int .i64 steps, .int .i64 left, .bool armed, .bool dead, .slice av q.length cv] 40) = W1 := ⟨_, rfl⟩
  obtain ⟨B, hB⟩ : ∃ B, w.heap.size = B := ⟨_, rfl⟩
  have hb1 : Below w.heap.size w W1 := by rw [← hW1]; exact (Below.refl _ _).alloc (Nat.le_refl _) _
  have h1 := h.below hb1
  have hblk : Blk W1 B 40 #[.int .i64 room, .int .i64 steps, .int .i64 left, .bool armed, .bool dead, .slice av q.length cv] := by rw [← hW1, ← hB]; exact Blk.alloc_new _ _ _
  obtain ⟨M, hM⟩ : ∃ M, W1.heap.size = M := ⟨_, rfl⟩
  have hBM : B < M := by have := Blk.lt hblk; omega
  have HB1 := Lib.hid hb1
  have HM := Lib.hid hM
  have HH := Lib.hid h1
  have HBK := Lib.hid hblk
  have hown0 : W1.ownsRow M 27 1 (.slice none 0 0) 0 [] := World.ownsRow_nil _ _ _ _
  have hbl0 : Below M W1 W1 := Below.refl _ _
  clear h hb1 h1 hM hblk
  go_enter Try.func33, Try.ntmps33
  go_wp2_with fail
  try rw [hB]
  try rw [hW1]
  go_loopw [3, 4] (fun x3 x4 wr => ∃ (i : Nat) (v : Value) (acc : List Int), x3 = v ∧ x4 = .int .i64 i ∧ i ≤ q.length ∧ acc.length ≤ i ∧ acc = areaG ((q.take i).map (·.1)) ∧ wr.ownsRow M 27 1 v acc.length (acc.map (.int .u64)) ∧ Below M W1 wr) (fun _ x4 _ => q.length - (intOf x4).toNat)
  case atStart => exact ⟨0, _, [], rfl, rfl, Nat.zero_le _, Nat.le_refl _, rfl, hown0, hbl0⟩
  case round =>
    clear hown0 hbl0
    obtain ⟨i, v, acc, hvx, rfl, hi, hal, hacc, hown, hbl⟩ := hrel
    subst hvx
    have hMs := HM.out
    have hszr : M ≤ wr.heap.size := by have := hbl.size; omega
    have bB := HBK.out.below hbl hBM
    have c5 : wr.cell? ⟨B, 5, none⟩ = some (.slice av q.length cv) := by rw [Blk.cell bB]; rfl
    by_cases hlt : (i : Int) < (q.length : Int)
    · have hiq : i < q.length := by omega
      obtain ⟨x, hx⟩ : ∃ x, q[i]? = some x := ⟨_, List.getElem?_eq_getElem hiq⟩
      obtain ⟨g, rfl, hg, k0, k1, k2, k3⟩ := (HH.out.below (by rw [hMs]; exact hbl)).at_ hx
      have hstep : areaG ((q.take (i + 1)).map (·.1)) = areaF acc x.1 := by
        rw [List.take_add_one, hx, hacc, ← area_step]; simp
      have hinext : IntKind.i64.wrap ((i : Int) + 1) = ((i + 1 : Nat) : Int) := IntWalk.i64_in _ (by omega)
      have i0' : (0 : Int) ≤ (i : Int) := by omega
      obtain ⟨y, hy⟩ : ∃ y, x.1.area = y := ⟨_, rfl⟩
      rw [hy] at k0
      have hbst : Below M W1 (wr.alloc (.cells #[.int .u64 y] 27)) := hbl.alloc hszr _
      obtain ⟨n7, hn7⟩ : ∃ n7, acc.length = n7 := ⟨_, rfl⟩
      obtain ⟨a7, c7, hv7⟩ := own_slice hown
      rw [hn7] at hv7 hown hal
      subst hv7
      by_cases ha0 : acc = []
      · have hst2 : areaG ((q.take (i + 1)).map (·.1)) = acc ++ [y] := by rw [hstep]; unfold areaF; rw [if_neg (by rw [ha0]; simp), hy]
        have hn0 : n7 = 0 := by rw [← hn7, ha0]; rfl
        have hd0 : ((n7 : Int) == 0) = true := by rw [hn0]; rfl
        have HS := Lib.hid hst2
        have HOWN := Lib.hid hown
        have HBL := Lib.hid hbl
        have HN7 := Lib.hid hn7
        clear hst2 hstep hacc hx hy bB hbst hn7 ha0 hn0
        go_wp2_with fail
        go_quiet (fail)
        obtain ⟨wd, hwd⟩ : ∃ wd, wr.drewN nq = wd := ⟨_, rfl⟩
        have hb9 : Below wr.heap.size wr wd := by rw [← hwd]; exact below_drewN (Below.refl _ _) nq
        have hz9 : wr.heap.size = wd.heap.size := by rw [← hwd]; rfl
        rw [hwd]
        have HOWN := Lib.hid (owns_below HOWN.out hb9)
        have HBL := Lib.hid (HBL.out.trans (hb9.mono hszr))
        have c5 := (hb9.cell (p := ⟨B, 5, none⟩) (by show B < _; omega)).trans c5
        have k0 := (hb9.cell (p := ⟨g, i * 4, none⟩) hg).trans k0
        have hszr : M ≤ wd.heap.size := by omega
        clear hz9 hb9 hwd hown hbl
        go_wp2_with (at_builtin; refine wpList_push _ (by rfl) _ _ 56 rfl M 27 i0 (.int .u64 0) 8 Try.underlying56 hi0 hz0 hz1 hz2 rfl _ n7 _ rfl (HOWN.out.alloc _) wd.heap.size (.int .u64 y) rfl (cell_new _ _ _ _ rfl) rfl (by unfold maxLen; omega) (by omega) (by simp; omega) ?_; intro v' w2 hown2 hb2)
        refine ⟨⟨i + 1, v', acc ++ [y], rfl, ?_, by omega, ?_, HS.out.symm, ?_, ?_⟩, ?_⟩
        · first | rfl | congr 1
        · have := HN7.out; simp; omega
        · have e : (acc ++ [y]).length = n7 + 1 := by simp [HN7.out]
          have e2 : (acc ++ [y]).map (Value.int .u64) = acc.map (.int .u64) ++ [.int .u64 y] := by simp
          rw [e, e2]; exact hown2
        · exact (HBL.out.alloc (by assumption) _).trans hb2
        · simp [intOf]; omega
      · obtain ⟨k, hk⟩ : ∃ k, n7 = k + 1 := ⟨n7 - 1, by have := List.length_pos_iff.2 ha0; omega⟩
        have hint : Ints wr .u64 (.slice a7 n7 c7) acc := Ints.own (by rw [hn7]; exact hown) (by omega)
        obtain ⟨z, hz⟩ : ∃ z, acc.getD k 0 = z := ⟨_, rfl⟩
        obtain ⟨gb, ob, rfl, hgb, kz⟩ := hint.at_ (k := k) (by omega) hz
        have hlast : acc.getLast? = some z := by
          rw [List.getLast?_eq_getElem?, hn7, hk, Nat.add_sub_cancel, List.getElem?_eq_getElem (by omega), ← hz, List.getD_eq_getElem?_getD, List.getElem?_eq_getElem (by omega)]; rfl
        have W1' : wrap64 ((n7 : Int) - 1) = (k : Int) := by rw [IntWalk.wrap64_in _ (by omega)]; omega
        have W2' : IntKind.i64.wrap ((n7 : Int) - 1) = (k : Int) := by rw [IntWalk.i64_in _ (by omega)]; omega
        have W3' : (n7 : Int) - 1 = (k : Int) := by omega
        have hkk : (k : Int) < (n7 : Int) := by omega
        have hk0 : (0 : Int) ≤ (k : Int) := by omega
        have hd0 : ((n7 : Int) == 0) = false := by rw [beq_eq_false_iff_ne]; omega
        by_cases hzy : z = y
        · subst hzy
          have hst2 : areaG ((q.take (i + 1)).map (·.1)) = acc := by rw [hstep]; unfold areaF; rw [if_pos (by rw [hlast, hy])]
          have HS := Lib.hid hst2
          have HOWN := Lib.hid hown
          have HBL := Lib.hid hbl
          have HN7 := Lib.hid hn7
          clear hst2 hstep hacc hx hy bB hbst hn7 ha0 hint hz hlast hk
          go_wp2_with fail
          go_quiet (fail)
          go_wp2_with fail
          have hb9 : Below wr.heap.size wr (wr.drewN nq) := below_drewN (Below.refl _ _) nq
          refine ⟨⟨i + 1, _, acc, rfl, ?_, by omega, ?_, HS.out.symm, ?_, ?_⟩, ?_⟩
          · first | rfl | congr 1
          · have := HN7.out; omega
          · rw [HN7.out]; exact owns_below HOWN.out hb9
          · exact HBL.out.trans (hb9.mono hszr)
          · simp [intOf]; omega
        · have hst2 : areaG ((q.take (i + 1)).map (·.1)) = acc ++ [y] := by rw [hstep]; unfold areaF; rw [if_neg (by rw [hlast, hy]; simpa using hzy), hy]
          have hd1 : (z != y) = true := by simp [hzy]
          have HS := Lib.hid hst2
          have HOWN := Lib.hid hown
          have HBL := Lib.hid hbl
          have HN7 := Lib.hid hn7
          clear hst2 hstep hacc hx hy bB hbst hn7 ha0 hint hz hlast hk
          go_wp2_with fail
          go_quiet (fail)
          obtain ⟨wd, hwd⟩ : ∃ wd, wr.drewN nq = wd := ⟨_, rfl⟩
          have hb9 : Below wr.heap.size wr wd := by rw [← hwd]; exact below_drewN (Below.refl _ _) nq
          have hz9 : wr.heap.size = wd.heap.size := by rw [← hwd]; rfl
          rw [hwd]
          have HOWN := Lib.hid (owns_below HOWN.out hb9)
          have HBL := Lib.hid (HBL.out.trans (hb9.mono hszr))
          have c5 := (hb9.cell (p := ⟨B, 5, none⟩) (by show B < _; omega)).trans c5
          have k0 := (hb9.cell (p := ⟨g, i * 4, none⟩) hg).trans k0
          have hszr : M ≤ wd.heap.size := by omega
          clear hz9 hb9 hwd hown hbl
          go_wp2_with (at_builtin; refine wpList_push _ (by rfl) _ _ 56 rfl M 27 i0 (.int .u64 0) 8 Try.underlying56 hi0 hz0 hz1 hz2 rfl _ n7 _ rfl (HOWN.out.alloc _) wd.heap.size (.int .u64 y) rfl (cell_new _ _ _ _ rfl) rfl (by unfold maxLen; omega) (by omega) (by simp; omega) ?_; intro v' w2 hown2 hb2)
          refine ⟨⟨i + 1, v', acc ++ [y], rfl, ?_, by omega, ?_, HS.out.symm, ?_, ?_⟩, ?_⟩
          · first | rfl | congr 1
          · have := HN7.out; simp; omega
          · have e : (acc ++ [y]).length = n7 + 1 := by simp [HN7.out]
            have e2 : (acc ++ [y]).map (Value.int .u64) = acc.map (.int .u64) ++ [.int .u64 y] := by simp
            rw [e, e2]; exact hown2
          · exact (HBL.out.alloc (by assumption) _).trans hb2
          · simp [intOf]; omega
    · have hie : i = q.length := by omega
      subst hie
      rw [List.take_length] at hacc
      have hint : Ints wr .u64 _ acc := Ints.own hown (by omega)
      rw [hacc] at hint
      have HI := Lib.hid hint
      have HBL := Lib.hid hbl
      clear hint hacc hown hbl
      go_wp2_with fail
      go_ret
      have hbf : Below w.heap.size w wr := HB1.out.trans (HBL.out.mono (by rw [← HM.out]; exact HB1.out.size))
      rw [hB] at hbf
      exact ⟨_, rfl, HI.out, by first | exact hbf | (rw [hB]; exact hbf)⟩
set_option maxRecDepth 100000 in
set_option maxHeartbeats 2000000 in
theorem rread_any (r : RSt) (v : Value) (q : List (RSec × Value)) (a n : Int) (w : World) (h : RDisk w v r q) (hs : Srt r.l) :
    Calls Try.prog 35 #[.agg (diskR r v), .int .u64 a, .int .i64 n] w fun e w' => e = .returned (.tuple #[.string (((findR r.l a n).map fun s => s.1.getLastD ByteArray.empty).getD ByteArray.empty), .bool (findR r.l a n).isSome]) ∧ Below w.heap.size w w' := by
  have hlen := h.1.len
  obtain ⟨av, cv, rfl⟩ := h.1.slice
  obtain ⟨room, steps, left, armed, dead, l⟩ := r
  have hql : q.map (·.1) = l := h.2
  unfold diskR
  dsimp only at hs ⊢
  obtain ⟨W1, hW1⟩ : ∃ W1, w.alloc (.cells #[.int .i64 room, .int .i64 steps, .int .i64 left, .bool armed, .bool dead, .slice av q.length cv] 40) = W1 := ⟨_, rfl⟩
  obtain ⟨B, hB⟩ : ∃ B, w.heap.size = B := ⟨_, rfl⟩
  have hb1 : Below w.heap.size w W1 := by rw [← hW1]; exact (Below.refl _ _).alloc (Nat.le_refl _) _
  have h1 := h.1.below hb1
  have hblk : Blk W1 B 40 #[.int .i64 room, .int .i64 steps, .int .i64 left, .bool armed, .bool dead, .slice av q.length cv] := by rw [← hW1, ← hB]; exact Blk.alloc_new _ _ _
  obtain ⟨c0, c1, c2, c3, c4, c5⟩ := blk6 hblk
  have hat := rat_any ⟨room, steps, left, armed, dead, l⟩ (.slice av q.length cv) q a n W1 h1
  unfold diskR at hat
  dsimp only at hat
  have HB1 := Lib.hid hb1
  have H1 := Lib.hid h1
  have HAT := Lib.hid hat
  have HBK := Lib.hid hblk
  have HQL := Lib.hid hql
  have HSRT := Lib.hid hs
  clear h hb1 h1 hat hblk hql hs
  obtain ⟨S, hS⟩ : ∃ S, ((findR l a n).map fun s => s.1.getLastD ByteArray.empty).getD ByteArray.empty = S := ⟨_, rfl⟩
  obtain ⟨I, hI⟩ : ∃ I, (findR l a n).isSome = I := ⟨_, rfl⟩
  rw [hS, hI]
  have HS := Lib.hid hS
  have HI := Lib.hid hI
  clear hS hI
  go_enter Try.func35, Try.ntmps35
  go_wp2_with fail
  try rw [hB]
  try rw [hW1]
  refine HAT.out.mono ?_
  rintro e w2 ⟨x, rfl, hx, hb2⟩
  have hbw := HB1.out.trans (hb2.mono HB1.out.size)
  have HBW := Lib.hid hbw
  have bB2 := HBK.out.below hb2 (Blk.lt HBK.out)
  obtain ⟨d0, d1, d2, d3, d4, d5⟩ := blk6 bB2
  have H2 := Lib.hid (H1.out.below hb2)
  clear hb2 hbw bB2 HBK c0 c1 c2 c3 c4 c5 HAT
  rcases hx with ⟨rfl, hno⟩ | ⟨i, s, hs, rfl, ha, hn⟩
  · have hf : findR l a n = none := find_none.2 fun s hs => by
      rw [← HQL.out] at hs
      obtain ⟨y, hy, rfl⟩ := List.mem_map.1 hs
      exact hno y hy
    obtain rfl : I = false := by rw [← HI.out, hf]; rfl
    obtain rfl : S = ByteArray.empty := by rw [← HS.out, hf]; rfl
    clear hno hf
    go_wp2_with fail
    go_ret2
    exact ⟨rfl, HBW.out⟩
  · have hm : s.1 ∈ l := by rw [← HQL.out]; exact List.mem_map.2 ⟨s, List.mem_of_getElem? hs, rfl⟩
    have hf := find_mem HSRT.out hm
    rw [ha, hn] at hf
    obtain rfl : I = true := by rw [← HI.out, hf]; rfl
    have hSe : S = s.1.L.getLastD ByteArray.empty := by rw [← HS.out, hf]; rfl
    have hi : i < q.length := (List.getElem?_eq_some_iff.1 hs).1
    have hsec := H2.out.secs s (List.mem_of_getElem? hs)
    obtain ⟨g, rfl, hg, k0, k1, k2, k3⟩ := H2.out.at_ hs
    have hla := rlast_any s.1 s.2 w2 hsec
    obtain ⟨⟨_, xa, xc, hxu, _⟩, _⟩ := hsec
    rw [hxu] at k2
    obtain ⟨X, hX⟩ : ∃ X, s.1.area = X := ⟨_, rfl⟩
    obtain ⟨Y, hY⟩ : ∃ Y, s.1.n = Y := ⟨_, rfl⟩
    obtain ⟨Z, hZ⟩ : ∃ Z, s.1.sync = Z := ⟨_, rfl⟩
    obtain ⟨xn, hxn⟩ : ∃ xn, s.1.L.length = xn := ⟨_, rfl⟩
    have hsr : secR s.1 s.2 = #[.int .u64 X, .int .i64 Y, .slice xa xn xc, .bool Z] := by rw [← hX, ← hY, ← hZ, ← hxn, ← hxu]; rfl
    rw [hX] at k0
    rw [hY] at k1
    rw [hxn] at k2
    rw [hZ] at k3
    rw [hsr, ← hSe] at hla
    have i0 : (0 : Int) ≤ (i : Int) := by omega
    have HLA := Lib.hid hla
    clear hm hf hSe hla hX hY hZ hxn hsr hxu hs ha hn
    go_wp2_with fail
    refine HLA.out.mono ?_
    rintro e w3 ⟨rfl, hb3⟩
    have hbf := HBW.out.trans (hb3.mono HBW.out.size)
    clear hb3
    go_wp2_with fail
    go_ret2
    exact ⟨rfl, hbf⟩
end Go.Proofs.Yteidmneenfdafaa.R
