/-
  The walk of the document's Crash; DiskCrash, DiskAgain.
-/
import Derived.Test.YteidmneenfdafaaRefStands
import Derived.Deep.DeepCutAuto
namespace Go.Proofs.Yteidmneenfdafaa.R
open Go.RowKit
open Aid K
set_option linter.unusedSimpArgs false
set_option linter.unusedVariables false
set_option linter.unnecessarySimpa false

/-- a step of a crash -/
theorem crash_step {l : List RSec} {x : RSec} {ps : List Int} {G : List RSec} {miss used : Nat} (h : crashL l ps = (G, miss, ps.drop used)) :
    crashL (l ++ [x]) ps = match foundF (x.L, x.sync) (pickF (x.L, x.sync) (ps.drop used)) with
      | some v => (G ++ [⟨x.area, x.n, [v], true⟩], miss, restF (x.L, x.sync) (ps.drop used))
      | none => (G, miss + 1, restF (x.L, x.sync) (ps.drop used)) := by
  rw [crash_append, h]
  dsimp only
  cases hf : foundF (x.L, x.sync) (pickF (x.L, x.sync) (ps.drop used)) with
  | some v => rw [crash_some hf]; rfl
  | none => rw [crash_none hf]; simp [crashL]
theorem drop_head (ps : List Int) (k : Nat) : (ps.drop k).headD 0 = ps.getD k 0 := by
  rw [List.headD_eq_head?_getD, List.head?_drop, List.getD_eq_getElem?_getD]
theorem drop_tail (ps : List Int) (k : Nat) : (ps.drop k).tail = ps.drop (k + 1) := by rw [List.tail_drop]
/-- picks and rests, where a pick may be used -/
theorem use_pick {x : RSec} (h : ¬ (x.sync = true ∧ x.L.length = 1)) (hL : x.L ≠ []) (ps : List Int) (k : Nat) : pickF (x.L, x.sync) (ps.drop k) = ps.getD k 0 ∧ restF (x.L, x.sync) (ps.drop k) = ps.drop (k + 1) := by
  have hl := List.length_pos_iff.2 hL
  have hu : useF (x.L, x.sync) (ps.drop k) = !(ps.drop k).isEmpty := by
    unfold useF
    have : (!x.sync || decide (1 < x.L.length)) = true := by
      cases hs : x.sync
      · rfl
      · simp; have : x.L.length ≠ 1 := fun e => h ⟨hs, e⟩; omega
    dsimp only
    rw [this, Bool.and_true]
  unfold pickF restF
  rw [hu]
  cases hd : ps.drop k with
  | nil =>
    have hk : ps.length ≤ k := by simpa using hd
    refine ⟨?_, ?_⟩
    · rw [List.getD_eq_getElem?_getD, List.getElem?_eq_none hk]; rfl
    · rw [List.drop_eq_nil_of_le (by omega)]; rfl
  | cons y t =>
    refine ⟨?_, ?_⟩
    · have := drop_head ps k; rw [hd] at this; exact this
    · have := drop_tail ps k; rw [hd] at this; exact this
theorem use_none {x : RSec} (h : x.sync = true ∧ x.L.length = 1) (ps : List Int) : foundF (x.L, x.sync) (pickF (x.L, x.sync) ps) = x.L[0]? ∧ restF (x.L, x.sync) ps = ps := by
  have hu : useF (x.L, x.sync) ps = false := by unfold useF; rw [h.1]; simp [h.2]
  unfold pickF restF foundF
  rw [hu, h.1]
  simp [h.2, Nat.mod_one]
theorem RowIn.set {w wr : World} {B M i : Nat} {q : List (RSec × Value)} {v : Value} {acc : List (RSec × Value)} {G : List RSec} (h : RowIn w B M q v acc G i wr) {p : Addr} (hp : p.block < M) (hB : B ≤ p.block) (u : Value) : RowIn w B M q v acc G i (wr.setCell p u) :=
  ⟨ownsRow_setCell_below h.own hp u, fun y hy => by
    rcases h.secs y hy with h1 | ⟨b, V, e1, e2, e3, e4⟩
    · exact .inl h1
    · exact .inr ⟨b, V, e1, e2, by rw [Below.heap_setCell _ _ _ _ (by omega)]; exact e3, e4⟩, h.eq, h.len, h.below.setCell hB u, by rw [World.size_setCell]; exact h.size⟩
theorem RowIn.low {w wr w2 : World} {B M i : Nat} {q : List (RSec × Value)} {v : Value} {acc : List (RSec × Value)} {G : List RSec} (h : RowIn w B M q v acc G i wr) (hb : Below wr.heap.size wr w2) (hBM : B ≤ M) : RowIn w B M q v acc G (i + 1) w2 :=
  ⟨owns_below h.own hb, fun y hy => by
    rcases h.secs y hy with h1 | h1
    · exact .inl h1
    · exact .inr (h1.keep (fun b c e => hb.block b (Array.getElem?_eq_some_iff.1 e).1)), h.eq, by have := h.len; omega, h.below.trans (hb.mono (Nat.le_trans hBM h.size)), by have := h.size; have := hb.size; omega⟩
theorem set_same {w : World} {g j : Nat} {t : TypeId} {cs : Array Value} {v : Value} (h : Blk w g t cs) (hv : cs[j]? = some v) : w.setCell ⟨g, j, none⟩ v = w := by
  unfold Blk at h
  have hc : cs.setIfInBounds j v = cs := by
    apply Array.ext_getElem?
    intro i
    rw [Array.getElem?_setIfInBounds]
    split
    · rename_i e
      subst e
      rw [hv]
      have := (Array.getElem?_eq_some_iff.1 hv).1
      simp [this]
    · rfl
  have hh : (w.setCell ⟨g, j, none⟩ v).heap = w.heap := by
    unfold World.setCell
    apply Array.ext_getElem?
    intro i
    show (w.heap.modify g _)[i]? = _
    rw [Array.getElem?_modify]
    split
    · rename_i e
      subst e
      rw [h]
      simp [hc]
    · rfl
  have h2 : w.setCell ⟨g, j, none⟩ v = { w with heap := (w.setCell ⟨g, j, none⟩ v).heap } := rfl
  rw [h2, hh]
theorem found_sync {L : List ByteArray} {y : Int} {r : Nat} (hL : 0 < L.length) (hr : (max y 0).toNat % L.length = r) : foundF (L, true) y = some (L.getD r ByteArray.empty) := by
  unfold foundF
  rw [if_pos rfl]
  show L[(max y 0).toNat % L.length]? = _
  have : r < L.length := by rw [← hr]; exact Nat.mod_lt _ hL
  rw [hr, List.getElem?_eq_getElem this, List.getD_eq_getElem?_getD, List.getElem?_eq_getElem this]; rfl
theorem found_zero {L : List ByteArray} {y : Int} (hr : (max y 0).toNat % (L.length + 1) = 0) : foundF (L, false) y = none := by
  unfold foundF
  rw [if_neg Bool.false_ne_true]
  exact if_pos hr
theorem found_some {L : List ByteArray} {y : Int} {j : Nat} (hr : (max y 0).toNat % (L.length + 1) = j + 1) : foundF (L, false) y = some (L.getD j ByteArray.empty) := by
  unfold foundF
  rw [if_neg Bool.false_ne_true]
  show (if (max y 0).toNat % (L.length + 1) = 0 then none else L[(max y 0).toNat % (L.length + 1) - 1]?) = _
  have : j < L.length := by have := Nat.mod_lt (max y 0).toNat (show 0 < L.length + 1 by omega); omega
  rw [hr, if_neg (Nat.succ_ne_zero j), Nat.add_sub_cancel, List.getElem?_eq_getElem this, List.getD_eq_getElem?_getD, List.getElem?_eq_getElem this]; rfl
theorem own_one (w : World) (u : Value) (e : TypeId) (hu : u.oneCell' = true) : (w.alloc (.cells #[u] e)).ownsRow w.heap.size e 1 (.slice (some ⟨w.heap.size, 0, none⟩) 1 1) 1 [u] :=
  ⟨rfl, .inr ⟨w.heap.size, 1, #[u], rfl, Nat.le_refl _, heap_alloc_new w _, Nat.le_refl _, by unfold maxLen; omega, rfl, rfl⟩⟩
theorem str_ne {V : ByteArray} (h : V.size = 64) : V.toList.isEmpty = false ∧ V.toList ≠ [] := by
  have h1 : V.toList ≠ [] := by
    rw [ByteArray.toList_eq]
    intro e
    have : V.size = 0 := by show V.data.size = 0; rw [← Array.length_toList, e]; rfl
    omega
  refine ⟨?_, h1⟩
  cases hq : V.toList with
  | nil => exact absurd hq h1
  | cons a l => rfl
structure RcIn (W0 : World) (B M : Nat) (q : List (RSec × Value)) (ps : List Int) (room : Int) (arg : Array Value) (i used : Nat) (v : Value) (acc : List (RSec × Value)) (G : List RSec) (miss : Nat) (wr : World) : Prop where
  row : RowIn W0 B M q v acc G i wr
  eq : crashL ((q.take i).map (·.1)) ps = (G, miss, ps.drop used)
  bA : Blk wr B 40 arg
  bR : Blk wr (B + 1) 40 #[.int .i64 0, .int .i64 0, .int .i64 0, .bool false, .bool false, .slice none 0 0]
  bC : Blk wr (B + 1 + 1) 40 #[.int .i64 (room + (miss : Nat)), .int .i64 0, .int .i64 0, .bool false, .bool false, v]
  ui : used ≤ i
  mi : miss ≤ i
def RcEnd (w : World) (r : RSt) (ps : List Int) (e : Ending) (w' : World) : Prop := ∃ v' q', e = .returned (.agg (diskR (crashR r ps) v')) ∧ RDisk w' v' (crashR r ps) q' ∧ Below w.heap.size w w'
set_option maxRecDepth 100000 in
set_option maxHeartbeats 8000000 in
theorem rcrash_any (r : RSt) (v : Value) (q : List (RSec × Value)) (vp : Value) (ps : List Int) (w : World) (h : RDisk w v r q) (hI : Ints w .i64 vp ps) (hps : ∀ y ∈ ps, (Lit.int .i64 y).wf = true) (hl : q.length < 2932031007390)
    (hroom : 0 ≤ r.room ∧ r.room + (q.length : Nat) ≤ 9223372036854775807) (hV : ∀ x ∈ q, x.1.L.length < 4398046511103 ∧ ∀ V ∈ x.1.L, V.size = 64) :
    Calls Try.prog 30 #[.agg (diskR r v), vp] w (RcEnd w r ps) := by
  obtain ⟨av, cv, rfl⟩ := h.1.slice
  obtain ⟨va, vc, rfl⟩ := Ints.form hI
  have HR := Lib.hid h
  have HI := Lib.hid hI
  have HPS := Lib.hid hps
  have HV := Lib.hid hV
  obtain ⟨room, steps, left, armed, dead, rl⟩ := r
  dsimp only at hroom
  have hpl : ps.length ≤ 140737488355328 := hI.1
  obtain ⟨B, hB⟩ : ∃ B, w.heap.size = B := ⟨_, rfl⟩
  obtain ⟨W1, hW1⟩ : ∃ W1, (((w.alloc (.cells #[.int .i64 room, .int .i64 steps, .int .i64 left, .bool armed, .bool dead, .slice av q.length cv] 40)).alloc (.cells #[.int .i64 0, .int .i64 0, .int .i64 0, .bool false, .bool false, .slice none 0 0] 40)).alloc (.cells #[.int .i64 room, .int .i64 0, .int .i64 0, .bool false, .bool false, .slice none 0 0] 40)) = W1 := ⟨_, rfl⟩
  have hb1 : Below w.heap.size w W1 := by rw [← hW1]; exact (((Below.refl _ _).alloc (Nat.le_refl _) _).alloc (by simp) _).alloc (by simp; omega) _
  have hz1 : W1.heap.size = B + 3 := by rw [← hW1, ← hB]; simp
  have bA : Blk W1 B 40 #[.int .i64 room, .int .i64 steps, .int .i64 left, .bool armed, .bool dead, .slice av q.length cv] := by
    rw [← hW1, ← hB]; exact ((Blk.alloc_new _ _ _).below ((Below.refl _ _).alloc (Nat.le_refl _) _) (by simp)).below ((Below.refl _ _).alloc (Nat.le_refl _) _) (by simp; omega)
  have bR : Blk W1 (B + 1) 40 #[.int .i64 0, .int .i64 0, .int .i64 0, .bool false, .bool false, .slice none 0 0] := by
    rw [← hW1, ← hB]; exact (two_blk _ _ _ _).below ((Below.refl _ _).alloc (Nat.le_refl _) _) (by simp)
  have bC : Blk W1 (B + 1 + 1) 40 #[.int .i64 room, .int .i64 0, .int .i64 0, .bool false, .bool false, .slice none 0 0] := by
    rw [← hW1]
    have e : B + 1 + 1 = ((w.alloc (.cells #[.int .i64 room, .int .i64 steps, .int .i64 left, .bool armed, .bool dead, .slice av q.length cv] 40)).alloc (.cells #[.int .i64 0, .int .i64 0, .int .i64 0, .bool false, .bool false, .slice none 0 0] 40)).heap.size := by rw [← hB]; simp
    rw [e]; exact Blk.alloc_new _ _ _
  obtain ⟨M, hM⟩ : ∃ M, W1.heap.size = M := ⟨_, rfl⟩
  have hBM : B + 3 ≤ M := by omega
  have hrel0 : RcIn w B M q ps room #[.int .i64 room, .int .i64 steps, .int .i64 left, .bool armed, .bool dead, .slice av q.length cv] 0 0 (.slice none 0 0) [] [] 0 W1 :=
    ⟨⟨World.ownsRow_nil _ _ _ _, fun x hx => (nomatch hx), rfl, Nat.le_refl _, by rw [← hB]; exact hb1, by omega⟩, rfl, bA, bR, by simpa using bC, Nat.le_refl _, Nat.le_refl _⟩
  have HW1 := Lib.hid hW1
  clear h hI hps hV hb1 hz1 bA bR bC hW1 hM
  unfold diskR
  dsimp only
  go_enter Try.func30, Try.ntmps30
  go_wp2_with fail
  try rw [hB]
  try rw [HW1.out]
  go_loopw [6, 7] (fun x6 x7 wr => ∃ (i used : Nat) (v : Value) (acc : List (RSec × Value)) (G : List RSec) (miss : Nat), x6 = .int .i64 used ∧ x7 = .int .i64 i ∧ i ≤ q.length ∧ RcIn w B M q ps room #[.int .i64 room, .int .i64 steps, .int .i64 left, .bool armed, .bool dead, .slice av q.length cv] i used v acc G miss wr) (fun _ x7 _ => q.length - (intOf x7).toNat)
  case atStart => exact ⟨0, 0, _, _, _, _, rfl, rfl, Nat.zero_le _, hrel0⟩
  case round =>
    clear hrel0
    obtain ⟨i, used, v, acc, G, miss, rfl, rfl, hi, hP⟩ := hrel
    obtain ⟨a0, a1, a2, a3, a4, a5⟩ := blk6 hP.bA
    obtain ⟨c0, c1, c2, c3, c4, c5⟩ := blk6 hP.bC
    obtain ⟨f0, f1, f2, f3, f4, f5⟩ := frees hP.bC
    have hsz := hP.row.size
    have hlen := hP.row.len
    have hui := hP.ui
    have hmi := hP.mi
    by_cases hlt : (i : Int) < (q.length : Int)
    · obtain ⟨x, hx⟩ : ∃ x, q[i]? = some x := ⟨_, List.getElem?_eq_getElem (by omega)⟩
      have hrow : RowIs wr (.slice av q.length cv) q := HR.out.1.below (by rw [hB]; exact hP.row.below)
      obtain ⟨g, rfl, hg, k0, k1, k2, k3⟩ := hrow.at_ hx
      have hsec := hrow.secs x (List.mem_of_getElem? hx)
      have hxv := HV.out x (List.mem_of_getElem? hx)
      have hsec2 := hsec
      obtain ⟨⟨_, xa, xc, hxu, hxlc, hxnil, hxcell⟩, hxne⟩ := hsec2
      rw [hxu] at k2
      have hxl := hxv.1
      obtain ⟨X, hX⟩ : ∃ X, x.1.area = X := ⟨_, rfl⟩
      obtain ⟨Y, hY⟩ : ∃ Y, x.1.n = Y := ⟨_, rfl⟩
      obtain ⟨Z, hZ⟩ : ∃ Z, x.1.sync = Z := ⟨_, rfl⟩
      obtain ⟨L, hLe⟩ : ∃ L, x.1.L = L := ⟨_, rfl⟩
      obtain ⟨xn, hxn⟩ : ∃ xn, L.length = xn := ⟨_, rfl⟩
      rw [hLe] at hxu k2 hxl hxv hxne hxlc hxcell
      rw [hxn] at k2 hxu hxl
      have hsr : secR x.1 x.2 = #[.int .u64 X, .int .i64 Y, .slice xa xn xc, .bool Z] := by rw [← hX, ← hY, ← hZ, ← hxu]; rfl
      rw [hX] at k0
      rw [hY] at k1
      rw [hZ] at k3
      have hx1 : x.1 = ⟨X, Y, L, Z⟩ := by rw [← hX, ← hY, ← hZ, ← hLe]
      have htake : (q.take (i + 1)).map (·.1) = (q.take i).map (·.1) ++ [x.1] := by rw [List.take_add_one, hx]; simp
      have hstep := crash_step (x := x.1) hP.eq
      rw [← htake] at hstep
      have hxn0 : 0 < xn := by rw [← hxn]; exact List.length_pos_iff.2 hxne
      have hinext : IntKind.i64.wrap ((i : Int) + 1) = ((i + 1 : Nat) : Int) := IntWalk.i64_in _ (by omega)
      have i0 : (0 : Int) ≤ (i : Int) := by omega
      have hown := hP.row.own
      obtain ⟨D, hD⟩ : ∃ D, wr.heap.size = D := ⟨_, rfl⟩
      obtain ⟨W2, hW2⟩ : ∃ W2, wr.alloc (.cells #[.int .u64 X, .int .i64 Y, .slice xa xn xc, .bool Z] 76) = W2 := ⟨_, rfl⟩
      have hb2 : Below wr.heap.size wr W2 := by rw [← hW2]; exact (Below.refl _ _).alloc (Nat.le_refl _) _
      have hz2 : W2.heap.size = D + 1 := by rw [← hW2, ← hD]; simp
      have bD : Blk W2 D 76 #[.int .u64 X, .int .i64 Y, .slice xa xn xc, .bool Z] := by rw [← hW2, ← hD]; exact Blk.alloc_new _ _ _
      obtain ⟨s0, s1, s2, s3⟩ := blk4 bD
      obtain ⟨sf0, sf1, sf2, sf3, _, _⟩ := frees bD
      have bC2 := hP.bC.below hb2 (Blk.lt hP.bC)
      have bA2 := hP.bA.below hb2 (Blk.lt hP.bA)
      have bR2 := hP.bR.below hb2 (Blk.lt hP.bR)
      obtain ⟨d0, d1, d2, d3, d4, d5⟩ := blk6 bC2
      obtain ⟨h0, h1, h2, h3, h4, h5⟩ := frees bC2
      have HX := Lib.hid hx
      have HP := Lib.hid hP
      have HSR := Lib.hid hsr
      have HXU := Lib.hid hxu
      have HX1 := Lib.hid hx1
      have HST := Lib.hid hstep
      have HXV := Lib.hid hxv
      have HLN := Lib.hid hxn
      have HB2 := Lib.hid hb2
      have HZ2 := Lib.hid hz2
      have HBC := Lib.hid bC2
      have HBA := Lib.hid bA2
      have HBR := Lib.hid bR2
      have HD := Lib.hid hD
      have HCELL := Lib.hid hxcell
      have HNE := Lib.hid hxne
      have HBD := Lib.hid bD
      have HSEC := Lib.hid hsec
      clear hx hP hsr hxu hx1 hstep hxv hxn hb2 bC2 bA2 bR2 bD hrow hsec htake hX hY hZ hLe hxcell hxne hxnil
      by_cases hA : Z = true ∧ xn = 1
      · obtain ⟨rfl, rfl⟩ := hA
        have hun := use_none (x := x.1) (by rw [HX1.out]; exact ⟨rfl, HLN.out⟩) (ps.drop used)
        obtain ⟨V, hV0⟩ : ∃ V, L = [V] := by
          have := HLN.out
          match L, this with
          | [V], _ => exact ⟨V, rfl⟩
        have hst2 : crashL ((q.take (i + 1)).map (·.1)) ps = (G ++ [x.1], miss, ps.drop used) := by
          rw [HST.out, hun.1, hun.2]
          rw [HX1.out, hV0]; rfl
        have HS2 := Lib.hid hst2
        have hown2 := owns_below hown HB2.out
        have hz2 := HZ2.out
        clear hst2 hun hV0 hown
        go_wp2_with (at_builtin; refine wpList_pushS _ (by rfl) _ _ rfl M _ acc rfl (hown2.alloc _) (D + 1) 76 x rfl (by rw [HSR.out, ← HZ2.out]; exact Blk.alloc_new _ _ _) (by rw [HXU.out]; rfl) (by omega) (by have := HZ2.out; have := HD.out; simp; omega) ?_; intro v2 w2 hown3 hb3 hk3; obtain ⟨a9, c9, hv9⟩ := own_shape hown3; subst hv9; have hlo : Below M wr w2 := ((HB2.out.mono hsz).alloc (by have := HZ2.out; have := HD.out; omega) _).trans hb3; have hC2 := HP.out.bC.below hlo (by omega); obtain ⟨t0, t1, t2, t3, t4, t5⟩ := blk6 hC2; obtain ⟨y0, y1, y2, y3, y4, y5⟩ := frees hC2; have HO3 := Lib.hid hown3; have HK3 := Lib.hid hk3; clear hown3 hk3)
        have hP2 := HP.out.row.push (HB2.out.alloc (by have := HZ2.out; have := HD.out; omega) _) (by omega) (.inl (List.mem_of_getElem? HX.out)) HO3.out hb3 HK3.out (G' := G ++ [x.1]) rfl
        refine ⟨⟨i + 1, used, _, acc ++ [x], G ++ [x.1], miss, rfl, ?_, by omega, ⟨hP2.set (p := ⟨B + 1 + 1, 5, none⟩) (by show B + 1 + 1 < M; omega) (by show B ≤ B + 1 + 1; omega) _, HS2.out, blk_other (HP.out.bA.below hlo (by omega)) (by omega) _, blk_other (HP.out.bR.below hlo (by omega)) (by omega) _, hC2.set 5 _, by omega, by omega⟩⟩, ?_⟩
        · first | rfl | congr 1
        · simp [intOf]; omega
      --MARK
      · rcases (show Z = false ∨ (Z = true ∧ xn ≠ 1) by cases Z; exact .inl rfl; exact .inr ⟨rfl, fun e => hA ⟨rfl, e⟩⟩) with rfl | ⟨rfl, hx1n⟩
        · have hun := use_pick (x := x.1) (by rw [HX1.out]; simpa [HLN.out] using hA) (by rw [HX1.out]; exact HNE.out) ps used
          obtain ⟨y, hY0⟩ : ∃ y, ps.getD used 0 = y := ⟨_, rfl⟩
          obtain ⟨pn, hpn⟩ : ∃ pn, (max y 0).toNat = pn := ⟨_, rfl⟩
          rw [hY0] at hun
          have hunext : IntKind.i64.wrap ((used : Int) + 1) = ((used + 1 : Nat) : Int) := IntWalk.i64_in _ (by omega)
          have HUP := Lib.hid hun
          clear hun
          try (have hset : W2.setCell ⟨D, 3, none⟩ (.bool false) = W2 := set_same HBD.out rfl)
          go_upto_if 44 with fail
          go_cut [9] (fun x9 wx => x9 = .int .i64 (pn : Int) ∧ wx = W2)
          case first =>
            by_cases hpk : (used : Int) < (ps.length : Int)
            · obtain ⟨b1, o1, rfl, hb1w, cy⟩ := Ints.at_ (HI.out.below (show Below w.heap.size w W2 by rw [hB]; exact HP.out.row.below.trans (HB2.out.mono (by omega)))) (k := used) (by omega) hY0
              have u0 : (0 : Int) ≤ (used : Int) := by omega
              by_cases hy0 : y < 0
              · have hp0 : pn = 0 := by rw [← hpn]; have : max y 0 = 0 := by omega
                                        rw [this]; rfl
                subst hp0
                go_wp2_with fail
                all_goals first
                  | (exfalso; omega)
                  | (go_meet; exact ⟨by first | rfl | congr 1, rfl⟩)
              · obtain ⟨k, rfl⟩ : ∃ k : Nat, y = (k : Int) := ⟨y.toNat, by omega⟩
                have hkq : k = pn := by rw [← hpn]; omega
                subst hkq
                have k0 : (0 : Int) ≤ (k : Int) := by omega
                go_wp2_with fail
                all_goals first
                  | (exfalso; omega)
                  | (go_meet; exact ⟨by first | rfl | congr 1, rfl⟩)
            · have hp0 : pn = 0 := by
                rw [← hpn, ← hY0, List.getD_eq_getElem?_getD, List.getElem?_eq_none (by omega)]; rfl
              subst hp0
              go_wp2_with fail
              go_meet
              exact ⟨by first | rfl | congr 1, rfl⟩
          case rest =>
            obtain ⟨rfl, hwx⟩ := hcut
            rw [hwx]
            clear hwx
            obtain ⟨M2, hM2⟩ : ∃ M2, 1 + L.length = M2 := ⟨_, rfl⟩
            have hVers : Vers (fun _ => True) W2 (.slice xa xn xc) L := by
              have := (HSEC.out.below HB2.out).1
              rw [HXU.out, HX1.out] at this
              exact this
            obtain ⟨is, his, hisz, hiss, hisb⟩ := str_info
            have hz2 := HZ2.out
            have HM2 := Lib.hid hM2
            have HVS := Lib.hid hVers
            clear hM2 hVers
            go_upto_region 16 with (at_builtin; refine wpList_append_strs _ (by rfl) _ _ _ rfl (D + 1) 9 is (.string ByteArray.empty) 16 Try.underlying64 his hisz hiss hisb rfl _ 1 [.string ByteArray.empty] rfl (by have e := own_one W2 (.string ByteArray.empty) 9 rfl; rw [HZ2.out] at e; exact e) _ L rfl (HVS.out.keep (O' := fun _ => False) (Keeps.of_below ((Below.refl _ _).alloc (Nat.le_refl _) _)) (fun _ _ h => h)) (by have := HLN.out; unfold maxLen; omega) (by have := HLN.out; omega) (by have := HZ2.out; simp; omega) ?_; intro v7 w7 hown7 hb7; rw [HM2.out] at hown7; obtain ⟨a7, c7, hv7⟩ := own_slice hown7; subst hv7; have HO7 := Lib.hid hown7; have HB7 := Lib.hid hb7; clear hown7 hb7)
            obtain ⟨D7, hD7⟩ : ∃ D7, w7.heap.size = D7 := ⟨_, rfl⟩
            have HD7 := Lib.hid hD7
            have hbw : Below wr.heap.size wr w7 := (HB2.out.alloc (by have := HZ2.out; have := HD.out; omega) _).trans (HB7.out.mono (by have := HD.out; omega))
            have HBW := Lib.hid hbw
            have HSZ := Lib.hid (show M ≤ w7.heap.size ∧ wr.heap.size ≤ w7.heap.size by have := hbw.size; omega)
            have hown9 : w7.ownsRow (D + 1) 9 1 (.slice a7 M2 c7) (ByteArray.empty :: L).length ((ByteArray.empty :: L).map .string) := by
              have e1 : (ByteArray.empty :: L).length = M2 := by rw [← HM2.out]; simp; omega
              rw [e1]; exact HO7.out
            have hvers := vers_of_own hown9 (by have := HLN.out; simp; omega)
            obtain ⟨_, a8, c8, hsl, _, _, hcl⟩ := hvers
            have hsl1 : a7 = a8 := by simp only [Value.slice.injEq] at hsl; exact hsl.1
            have HM3 := Lib.hid (show 0 < M2 ∧ M2 = xn + 1 by have := HM2.out; have := HLN.out; omega)
            obtain ⟨r, hr⟩ : ∃ r, pn % M2 = r := ⟨_, rfl⟩
            have Er : (pn : Int) % (M2 : Int) = (r : Int) := by omega
            have Et : (pn : Int).tmod (M2 : Int) = (r : Int) := by rw [Int.tmod_eq_emod_of_nonneg (by omega)]; exact Er
            have hrL : r < M2 := by rw [← hr]; exact Nat.mod_lt _ HM3.out.1
            obtain ⟨bq, oq, hq8, _, hbq, cq⟩ := hcl r (by rw [List.length_cons]; have := HM3.out; have := HLN.out; omega)
            rw [← hsl1] at hq8
            subst hq8
            have j1 : (r : Int) < (M2 : Int) := by omega
            have j0 : (0 : Int) ≤ (r : Int) := by omega
            have hC7 := HP.out.bC.below hbw (Blk.lt HP.out.bC)
            obtain ⟨t0, t1, t2, t3, t4, t5⟩ := blk6 hC7
            obtain ⟨y0, y1, y2, y3, y4, y5⟩ := frees hC7
            have hsD := (((HBD.out.below ((Below.refl _ _).alloc (Nat.le_refl _) (.cells #[.string ByteArray.empty] 9)) (Blk.lt HBD.out)).below HB7.out (by omega)))
            obtain ⟨s0, s1, s2, s3⟩ := blk4 hsD
            clear hcl hsl hsl1 hown9 hbw hsD
            by_cases hr0 : r = 0
            · subst hr0
              have hfd : foundF (L, false) y = none := found_zero (by rw [hpn, HLN.out, ← HM3.out.2]; exact hr)
              have hst2 : crashL ((q.take (i + 1)).map (·.1)) ps = (G, miss + 1, ps.drop (used + 1)) := by
                rw [HST.out, HUP.out.1, HUP.out.2, HX1.out, hfd]
              have HS2 := Lib.hid hst2
              have hq9 : ((ByteArray.empty :: L : List ByteArray).getD 0 ByteArray.empty) = ByteArray.empty := rfl
              rw [hq9, Nat.add_zero] at cq
              have Er0 : (pn : Int) % (M2 : Int) = 0 := Er
              have Et0 : (pn : Int).tmod (M2 : Int) = 0 := Et
              clear Er Et
              have HC7 := Lib.hid hC7
              have wr1 : IntKind.i64.wrap (room + (miss : Int) + 1) = room + (miss : Int) + 1 := IntWalk.i64_in _ (by omega)
              clear hr hfd hst2 hq9 hC7
              go_wp2_with fail
              have hP2 := HP.out.row.low HBW.out (by omega)
              refine ⟨⟨i + 1, used + 1, v, acc, G, miss + 1, ?_, ?_, by omega, ⟨hP2.set (p := ⟨B + 1 + 1, 0, none⟩) (by show B + 1 + 1 < M; omega) (by show B ≤ B + 1 + 1; omega) _, HS2.out, blk_other (HP.out.bA.below HBW.out (by omega)) (by omega) _, blk_other (HP.out.bR.below HBW.out (by omega)) (by omega) _, ?_, by omega, by omega⟩⟩, ?_⟩
              · first | rfl | congr 1
              · first | rfl | congr 1
              · have e : room + ((miss + 1 : Nat) : Int) = room + (miss : Int) + 1 := by omega
                rw [e]; exact HC7.out.set 0 _
              · simp [intOf]; omega
            · obtain ⟨j, rfl⟩ : ∃ j, r = j + 1 := ⟨r - 1, by omega⟩
              obtain ⟨V, hVe⟩ : ∃ V, L.getD j ByteArray.empty = V := ⟨_, rfl⟩
              have hfd : foundF (L, false) y = some V := by rw [← hVe]; exact found_some (by rw [hpn, HLN.out, ← HM3.out.2]; exact hr)
              have HFD := Lib.hid hfd
              have hq9 : ((ByteArray.empty :: L : List ByteArray).getD (j + 1) ByteArray.empty) = V := by rw [← hVe]; rfl
              rw [hq9] at cq
              have hVm : V ∈ L := by
                have h9 : j < L.length := by have := HM3.out; have := HLN.out; omega
                rw [← hVe, List.getD_eq_getElem?_getD, List.getElem?_eq_getElem h9]; exact List.getElem_mem h9
              obtain ⟨hV1, hV2⟩ := str_ne (HXV.out.2 V hVm)
              clear hr hVe hVm hfd hq9 hC7

              have hst2 : crashL ((q.take (i + 1)).map (·.1)) ps = (G ++ [⟨X, Y, [V], true⟩], miss, ps.drop (used + 1)) := by
                rw [HST.out, HUP.out.1, HUP.out.2, HX1.out, HFD.out]
              have HS2 := Lib.hid hst2
              obtain ⟨x', hx'⟩ : ∃ x' : RSec × Value, (⟨X, Y, [V], true⟩, .slice (some ⟨D7, 0, none⟩) 1 1) = x' := ⟨_, rfl⟩
              have hsr' : secR x'.1 x'.2 = #[.int .u64 X, .int .i64 Y, .slice (some ⟨D7, 0, none⟩) 1 1, .bool true] := by rw [← hx']; rfl
              have hxu' : x'.2.oneCell' = true := by rw [← hx']; rfl
              have HX' := Lib.hid hx'
              have HSR' := Lib.hid hsr'
              have hnew : NewSec M ((w7.alloc (.cells #[.string V] 9)).alloc (.cells #[.int .u64 X, .int .i64 Y, .slice (some ⟨D7, 0, none⟩) 1 1, .bool true] 76)) x' := by
                rw [← hx']
                refine ⟨D7, V, rfl, by have := HSZ.out; have := HD7.out; omega, ?_, rfl⟩
                have e : D7 = w7.heap.size := by have := HD7.out; omega
                rw [Below.heap_alloc _ _ _ (by rw [e]; simp), e]; exact heap_alloc_new _ _
              have HNEW := Lib.hid hnew
              have hbk9 : Blk ((w7.alloc (.cells #[.string V] 9)).alloc (.cells #[.int .u64 X, .int .i64 Y, .slice (some ⟨D7, 0, none⟩) 1 1, .bool true] 76)) (D7 + 1) 76 #[.int .u64 X, .int .i64 Y, .slice (some ⟨D7, 0, none⟩) 1 1, .bool true] := by
                have e9 : D7 = w7.heap.size := by have := HD7.out; omega
                have e : D7 + 1 = (w7.alloc (.cells #[.string V] 9)).heap.size := by rw [e9]; simp
                rw [e]; exact Blk.alloc_new _ _ _
              have HBK9 := Lib.hid hbk9
              clear hbk9 hst2 hx' hsr' hnew
              go_wp2_with (at_builtin; refine wpList_pushS _ (by rfl) _ _ rfl M _ acc rfl ((owns_below hown (HBW.out.alloc (by have := HSZ.out; omega) _)).alloc _) (D7 + 1) 76 x' rfl (by rw [HSR'.out]; exact HBK9.out) hxu' (by omega) (by have := HSZ.out; simp; omega) ?_; intro v2 w2 hown3 hb3 hk3; obtain ⟨a9, c9, hv9⟩ := own_shape hown3; subst hv9; have hlo : Below M wr w2 := (((HBW.out.mono hsz).alloc (by have := HSZ.out; omega) _).alloc (by have := HSZ.out; simp; omega) _).trans hb3; have hC2 := HP.out.bC.below hlo (by omega); obtain ⟨t0, t1, t2, t3, t4, t5⟩ := blk6 hC2; obtain ⟨y0, y1, y2, y3, y4, y5⟩ := frees hC2; have HO3 := Lib.hid hown3; have HK3 := Lib.hid hk3; clear hown3 hk3)
              have hP2 := HP.out.row.push ((HBW.out.alloc (by have := HSZ.out; omega) _).alloc (by have := HSZ.out; simp; omega) _) (by omega) (.inr HNEW.out) HO3.out hb3 HK3.out (G' := G ++ [⟨X, Y, [V], true⟩]) (by rw [← HX'.out])
              refine ⟨⟨i + 1, used + 1, _, acc ++ [x'], _, miss, ?_, ?_, by omega, ⟨hP2.set (p := ⟨B + 1 + 1, 5, none⟩) (by show B + 1 + 1 < M; omega) (by show B ≤ B + 1 + 1; omega) _, HS2.out, blk_other (HP.out.bA.below hlo (by omega)) (by omega) _, blk_other (HP.out.bR.below hlo (by omega)) (by omega) _, hC2.set 5 _, by omega, by omega⟩⟩, ?_⟩
              · first | rfl | congr 1
              · first | rfl | congr 1
              · simp [intOf]; omega
        · have hx1i : ((xn : Int) == 1) = false := by rw [beq_eq_false_iff_ne]; omega
          have hun := use_pick (x := x.1) (by rw [HX1.out]; simpa [HLN.out] using hA) (by rw [HX1.out]; exact HNE.out) ps used
          obtain ⟨y, hY0⟩ : ∃ y, ps.getD used 0 = y := ⟨_, rfl⟩
          obtain ⟨pn, hpn⟩ : ∃ pn, (max y 0).toNat = pn := ⟨_, rfl⟩
          rw [hY0] at hun
          have hunext : IntKind.i64.wrap ((used : Int) + 1) = ((used + 1 : Nat) : Int) := IntWalk.i64_in _ (by omega)
          have HUP := Lib.hid hun
          clear hun
          try (have hset : W2.setCell ⟨D, 3, none⟩ (.bool false) = W2 := set_same HBD.out rfl)
          go_upto_if 44 with fail
          go_cut [9] (fun x9 wx => x9 = .int .i64 (pn : Int) ∧ wx = W2)
          case first =>
            by_cases hpk : (used : Int) < (ps.length : Int)
            · obtain ⟨b1, o1, rfl, hb1w, cy⟩ := Ints.at_ (HI.out.below (show Below w.heap.size w W2 by rw [hB]; exact HP.out.row.below.trans (HB2.out.mono (by omega)))) (k := used) (by omega) hY0
              have u0 : (0 : Int) ≤ (used : Int) := by omega
              by_cases hy0 : y < 0
              · have hp0 : pn = 0 := by rw [← hpn]; have : max y 0 = 0 := by omega
                                        rw [this]; rfl
                subst hp0
                go_wp2_with fail
                all_goals first
                  | (exfalso; omega)
                  | (go_meet; exact ⟨by first | rfl | congr 1, rfl⟩)
              · obtain ⟨k, rfl⟩ : ∃ k : Nat, y = (k : Int) := ⟨y.toNat, by omega⟩
                have hkq : k = pn := by rw [← hpn]; omega
                subst hkq
                have k0 : (0 : Int) ≤ (k : Int) := by omega
                go_wp2_with fail
                all_goals first
                  | (exfalso; omega)
                  | (go_meet; exact ⟨by first | rfl | congr 1, rfl⟩)
            · have hp0 : pn = 0 := by
                rw [← hpn, ← hY0, List.getD_eq_getElem?_getD, List.getElem?_eq_none (by omega)]; rfl
              subst hp0
              go_wp2_with fail
              go_meet
              exact ⟨by first | rfl | congr 1, rfl⟩
          case rest =>
            obtain ⟨rfl, hwx⟩ := hcut
            rw [hwx]
            clear hwx
            obtain ⟨r, hr⟩ : ∃ r, pn % xn = r := ⟨_, rfl⟩
            have Er : (pn : Int) % (xn : Int) = (r : Int) := by omega
            have Et : (pn : Int).tmod (xn : Int) = (r : Int) := by rw [Int.tmod_eq_emod_of_nonneg (by omega)]; exact Er
            have hrL : r < xn := by rw [← hr]; exact Nat.mod_lt _ hxn0
            obtain ⟨V, hVe⟩ : ∃ V, L.getD r ByteArray.empty = V := ⟨_, rfl⟩
            have hfd : foundF (L, true) y = some V := by rw [← hVe]; exact found_sync (by rw [HLN.out]; exact hxn0) (by rw [hpn, HLN.out, hr])
            have HFD := Lib.hid hfd
            obtain ⟨bq, oq, rfl, _, hbq, cq⟩ := HCELL.out r (by rw [HLN.out]; exact hrL)
            rw [hVe] at cq
            have cq2 := (HB2.out.cell (p := ⟨bq, oq + r, none⟩) hbq).trans cq
            have hVm : V ∈ L := by
              have h9 : r < L.length := by rw [HLN.out]; exact hrL
              rw [← hVe, List.getD_eq_getElem?_getD, List.getElem?_eq_getElem h9]; exact List.getElem_mem h9
            obtain ⟨hV1, hV2⟩ := str_ne (HXV.out.2 V hVm)
            have j1 : (r : Int) < (xn : Int) := by omega
            have j0 : (0 : Int) ≤ (r : Int) := by omega
            have HBW := HB2
            have HSZ := Lib.hid (show M ≤ W2.heap.size by have := HZ2.out; have := HD.out; omega)
            have hz2 := HZ2.out
            clear hr hVe hVm hfd cq

            have hst2 : crashL ((q.take (i + 1)).map (·.1)) ps = (G ++ [⟨X, Y, [V], true⟩], miss, ps.drop (used + 1)) := by
              rw [HST.out, HUP.out.1, HUP.out.2, HX1.out, HFD.out]
            have HS2 := Lib.hid hst2
            obtain ⟨x', hx'⟩ : ∃ x' : RSec × Value, (⟨X, Y, [V], true⟩, .slice (some ⟨(D + 1), 0, none⟩) 1 1) = x' := ⟨_, rfl⟩
            have hsr' : secR x'.1 x'.2 = #[.int .u64 X, .int .i64 Y, .slice (some ⟨(D + 1), 0, none⟩) 1 1, .bool true] := by rw [← hx']; rfl
            have hxu' : x'.2.oneCell' = true := by rw [← hx']; rfl
            have HX' := Lib.hid hx'
            have HSR' := Lib.hid hsr'
            have hnew : NewSec M ((W2.alloc (.cells #[.string V] 9)).alloc (.cells #[.int .u64 X, .int .i64 Y, .slice (some ⟨(D + 1), 0, none⟩) 1 1, .bool true] 76)) x' := by
              rw [← hx']
              refine ⟨(D + 1), V, rfl, by have := HSZ.out; have := HZ2.out; omega, ?_, rfl⟩
              have e : (D + 1) = W2.heap.size := by have := HZ2.out; omega
              rw [Below.heap_alloc _ _ _ (by rw [e]; simp), e]; exact heap_alloc_new _ _
            have HNEW := Lib.hid hnew
            have hbk9 : Blk ((W2.alloc (.cells #[.string V] 9)).alloc (.cells #[.int .u64 X, .int .i64 Y, .slice (some ⟨(D + 1), 0, none⟩) 1 1, .bool true] 76)) ((D + 1) + 1) 76 #[.int .u64 X, .int .i64 Y, .slice (some ⟨(D + 1), 0, none⟩) 1 1, .bool true] := by
              have e9 : (D + 1) = W2.heap.size := by have := HZ2.out; omega
              have e : (D + 1) + 1 = (W2.alloc (.cells #[.string V] 9)).heap.size := by rw [e9]; simp
              rw [e]; exact Blk.alloc_new _ _ _
            have HBK9 := Lib.hid hbk9
            clear hbk9 hst2 hx' hsr' hnew
            go_wp2_with (at_builtin; refine wpList_pushS _ (by rfl) _ _ rfl M _ acc rfl ((owns_below hown (HBW.out.alloc (by have := HSZ.out; omega) _)).alloc _) ((D + 1) + 1) 76 x' rfl (by rw [HSR'.out]; exact HBK9.out) hxu' (by omega) (by have := HSZ.out; simp; omega) ?_; intro v2 w2 hown3 hb3 hk3; obtain ⟨a9, c9, hv9⟩ := own_shape hown3; subst hv9; have hlo : Below M wr w2 := (((HBW.out.mono hsz).alloc (by have := HSZ.out; omega) _).alloc (by have := HSZ.out; simp; omega) _).trans hb3; have hC2 := HP.out.bC.below hlo (by omega); obtain ⟨t0, t1, t2, t3, t4, t5⟩ := blk6 hC2; obtain ⟨y0, y1, y2, y3, y4, y5⟩ := frees hC2; have HO3 := Lib.hid hown3; have HK3 := Lib.hid hk3; clear hown3 hk3)
            have hP2 := HP.out.row.push ((HBW.out.alloc (by have := HSZ.out; omega) _).alloc (by have := HSZ.out; simp; omega) _) (by omega) (.inr HNEW.out) HO3.out hb3 HK3.out (G' := G ++ [⟨X, Y, [V], true⟩]) (by rw [← HX'.out])
            refine ⟨⟨i + 1, used + 1, _, acc ++ [x'], _, miss, ?_, ?_, by omega, ⟨hP2.set (p := ⟨B + 1 + 1, 5, none⟩) (by show B + 1 + 1 < M; omega) (by show B ≤ B + 1 + 1; omega) _, HS2.out, blk_other (HP.out.bA.below hlo (by omega)) (by omega) _, blk_other (HP.out.bR.below hlo (by omega)) (by omega) _, hC2.set 5 _, by omega, by omega⟩⟩, ?_⟩
            · first | rfl | congr 1
            · first | rfl | congr 1
            · simp [intOf]; omega
      --END
    · have hie : i = q.length := by omega
      subst hie
      obtain ⟨a7, c7, hv7⟩ := own_shape hP.row.own
      obtain ⟨n7, hn7⟩ : ∃ n7, acc.length = n7 := ⟨_, rfl⟩
      rw [hn7] at hv7
      subst hv7
      have bR := hP.bR
      obtain ⟨r0, r1, r2, r3, r4, r5⟩ := blk6 bR
      obtain ⟨g0, g1, g2, g3, g4, g5⟩ := frees bR
      have HP := Lib.hid hP
      have HN7 := Lib.hid hn7
      clear hP hn7
      go_wp2_with fail
      refine bodyPost_ret (results_cellN rfl _ _ (B + 1) rfl _ _ (six_blk bR _ _ _ _ _ _) _ Try.underlying40 rfl size_disk) rfl ?_
      have hbf := six_below HP.out.row.below (b := B + 1) (by omega) (.int .i64 (room + (miss : Nat))) (.int .i64 0) (.int .i64 0) (.bool false) (.bool false) (.slice a7 n7 c7)
      have hAb := Above.six wr (M := M) (b := B + 1) (by omega) (.int .i64 (room + (miss : Nat))) (.int .i64 0) (.int .i64 0) (.bool false) (.bool false) (.slice a7 n7 c7)
      have heq := HP.out.eq
      rw [List.take_length, HR.out.2] at heq
      dsimp only at heq
      have hrow := HP.out.row.done HR.out.1 (Nat.le_refl _) (by rw [hB]; exact hbf) hAb
      have hG := HP.out.row.eq
      refine ⟨.slice a7 n7 c7, acc, ?_, ⟨hrow, ?_⟩, by first | exact hbf | (rw [hB]; exact hbf)⟩
      · have e : diskR (crashR ⟨room, steps, left, armed, dead, rl⟩ ps) (.slice a7 n7 c7) = #[.int .i64 (room + (miss : Nat)), .int .i64 0, .int .i64 0, .bool false, .bool false, .slice a7 n7 c7] := by
          unfold diskR crashR; rw [heq]
        first | rfl | (rw [e]; done) | (rw [e]; rfl) | (have e2 := e; unfold diskR at e2; rw [e2])
      · rw [hG]; unfold crashR; rw [heq]
end Go.Proofs.Yteidmneenfdafaa.R
