/-
  RefDo + RefFree + RefSync + RefWrite.
-/
import Derived.Test.YteidmneenfdafaaRefA
namespace Go.Proofs.Yteidmneenfdafaa.R
open Go.RowKit
open Aid K
set_option linter.unusedSimpArgs false
set_option linter.unusedVariables false

def putStepR (s : RSec) (c : List RSec × Bool) (x : RSec) : List RSec × Bool :=
  let c1 := if (!c.2 && (sameR x s || behindR x s)) = true then (c.1 ++ [s], true) else c
  (if sameR x s = true then c1.1 else c1.1 ++ [x], c1.2)
def putR (q : List RSec) (s : RSec) : List RSec :=
  let c := q.foldl (putStepR s) ([], false)
  if c.2 = true then c.1 else c.1 ++ [s]
theorem put_map (q : List (RSec × Value)) (s : RSec × Value) : (putQ q s).map (·.1) = putR (q.map (·.1)) s.1 := by
  have step : ∀ (c : List (RSec × Value) × Bool) (x : RSec × Value), ((putStep s c x).1.map (·.1), (putStep s c x).2) = putStepR s.1 (c.1.map (·.1), c.2) x.1 := by
    intro c x
    obtain ⟨a, d⟩ := c
    unfold putStep putStepR
    dsimp only
    by_cases e : (!d && (sameR x.1 s.1 || behindR x.1 s.1)) = true
    · rw [if_pos e, if_pos e]
      cases sameR x.1 s.1 <;> simp
    · rw [if_neg e, if_neg e]
      cases sameR x.1 s.1 <;> simp
  have go : ∀ (q : List (RSec × Value)) (c : List (RSec × Value) × Bool), ((q.foldl (putStep s) c).1.map (·.1), (q.foldl (putStep s) c).2) = (q.map (·.1)).foldl (putStepR s.1) (c.1.map (·.1), c.2) := by
    intro q
    induction q with
    | nil => intro c; rfl
    | cons x q ih =>
      intro c
      rw [List.foldl_cons, List.map_cons, List.foldl_cons, ih, step]
  have h1 : ((q.foldl (putStep s) ([], false)).1.map (·.1)) = ((q.map (·.1)).foldl (putStepR s.1) ([], false)).1 := congrArg Prod.fst (go q ([], false))
  have h2 : (q.foldl (putStep s) ([], false)).2 = ((q.map (·.1)).foldl (putStepR s.1) ([], false)).2 := congrArg Prod.snd (go q ([], false))
  unfold putQ putR
  dsimp only
  rw [← h2, ← h1]
  split
  · rfl
  · simp
def BadR (n : Int) (l : List Int) : Prop := n < 0 ∨ 65536 ≤ n ∨ 64 < l.length
/-- what Write answers -/
inductive WriteR (r : RSt) (a n : Int) (l : List Int) : RSt → Int → Prop
  | dead : r.dead = true → WriteR r a n l r 30
  | form : r.dead = false → BadR n l → WriteR r a n l r 31
  | full : r.dead = false → ¬ BadR n l → (∀ s ∈ r.l, ¬ (s.area = a ∧ s.n = n)) → r.room = 0 → WriteR r a n l r 32
  | fresh : r.dead = false → ¬ BadR n l → (∀ s ∈ r.l, ¬ (s.area = a ∧ s.n = n)) → r.room ≠ 0 → WriteR r a n l (stepR { r with room := r.room - 1, l := putR r.l ⟨a, n, [wholeI l], false⟩ }) (if diesR r = true then 30 else 0)
  | again (s : RSec) : r.dead = false → ¬ BadR n l → s ∈ r.l → s.area = a → s.n = n → WriteR r a n l (stepR { r with l := putR r.l ⟨a, n, s.L ++ [wholeI l], s.sync⟩ }) (if diesR r = true then 30 else 0)
/-- the blocks that a row holds -/
def Q (v : Value) (q : List (RSec × Value)) (k : Nat) : Prop := (∃ b n c, v = .slice (some b) n c ∧ b.block = k) ∨ ∃ x ∈ q, ∃ b n c, x.2 = .slice (some b) n c ∧ b.block = k
def AnsR (w : World) (v : Value) (q : List (RSec × Value)) (Rel : RSt → Int → Prop) (e : Ending) (w' : World) : Prop := ∃ v' q' r' x, e = .returned (.tuple #[.agg (diskR r' v'), .int .i64 x]) ∧ Rel r' x ∧ RDisk w' v' r' q' ∧ (∀ k, Q v' q' k → Q v q k ∨ w.heap.size ≤ k) ∧ Below w.heap.size w w'
theorem RowIs.keep {O : Nat → Prop} {w w' : World} {v : Value} {q : List (RSec × Value)} (h : RowIs w v q) (hk : Keeps O w w') (hd : ∀ k, Q v q k → ¬ O k) : RowIs w' v q := by
  refine ⟨?_, fun x hx => ?_, h.len⟩
  · rcases h.form with h1 | ⟨g, cap, h1, h2, h3⟩
    · exact .inl h1
    · exact .inr ⟨g, cap, h1, by have := hk.size; omega, fun j x hx => (hk.cell (p := ⟨g, j, none⟩) h2 (hd g (.inl ⟨_, _, _, h1, rfl⟩))).trans (h3 j x hx)⟩
  · obtain ⟨⟨h0, a', cap, h1, h2, h3, h4⟩, hne⟩ := h.secs x hx
    refine ⟨⟨h0, a', cap, h1, h2, h3, fun j hj => ?_⟩, hne⟩
    obtain ⟨b', o, e1, e2, e3, e4⟩ := h4 j hj
    exact ⟨b', o, e1, ⟨e2.1, e2.2.of_eq (hk.rows b' e2.2)⟩, by have := hk.size; omega, (hk.cell (p := ⟨b', o + j, none⟩) e3 (hd b' (.inr ⟨x, hx, _, _, _, by rw [h1, e1], rfl⟩))).trans e4⟩
theorem blk6 {w : World} {b : Nat} {T : TypeId} {x0 x1 x2 x3 x4 x5 : Value} (h : Blk w b T #[x0, x1, x2, x3, x4, x5]) :
    w.cell? ⟨b, 0, none⟩ = some x0 ∧ w.cell? ⟨b, 1, none⟩ = some x1 ∧ w.cell? ⟨b, 2, none⟩ = some x2 ∧ w.cell? ⟨b, 3, none⟩ = some x3 ∧ w.cell? ⟨b, 4, none⟩ = some x4 ∧ w.cell? ⟨b, 5, none⟩ = some x5 :=
  ⟨by rw [Blk.cell h]; rfl, by rw [Blk.cell h]; rfl, by rw [Blk.cell h]; rfl, by rw [Blk.cell h]; rfl, by rw [Blk.cell h]; rfl, by rw [Blk.cell h]; rfl⟩
theorem blk4 {w : World} {b : Nat} {T : TypeId} {x0 x1 x2 x3 : Value} (h : Blk w b T #[x0, x1, x2, x3]) :
    w.cell? ⟨b, 0, none⟩ = some x0 ∧ w.cell? ⟨b, 1, none⟩ = some x1 ∧ w.cell? ⟨b, 2, none⟩ = some x2 ∧ w.cell? ⟨b, 3, none⟩ = some x3 :=
  ⟨by rw [Blk.cell h]; rfl, by rw [Blk.cell h]; rfl, by rw [Blk.cell h]; rfl, by rw [Blk.cell h]; rfl⟩
theorem frees {w : World} {b : Nat} {T : TypeId} {cs : Array Value} (h : Blk w b T cs) :
    w.frozen? ⟨b, 0, none⟩ = false ∧ w.frozen? ⟨b, 1, none⟩ = false ∧ w.frozen? ⟨b, 2, none⟩ = false ∧ w.frozen? ⟨b, 3, none⟩ = false ∧ w.frozen? ⟨b, 4, none⟩ = false ∧ w.frozen? ⟨b, 5, none⟩ = false :=
  ⟨Blk.free h 0, Blk.free h 1, Blk.free h 2, Blk.free h 3, Blk.free h 4, Blk.free h 5⟩
theorem putQ_mem {q : List (RSec × Value)} {s x : RSec × Value} (h : x ∈ putQ q s) : x ∈ q ∨ x = s := by
  have go : ∀ (l : List (RSec × Value)) (c : List (RSec × Value) × Bool), (∀ y ∈ c.1, y ∈ q ∨ y = s) → (∀ y ∈ l, y ∈ q) → ∀ y ∈ (l.foldl (putStep s) c).1, y ∈ q ∨ y = s := by
    intro l
    induction l with
    | nil => intro c hc _ y hy; exact hc y hy
    | cons z l ih =>
      intro c hc hl y hy
      rw [List.foldl_cons] at hy
      refine ih (putStep s c z) (fun y hy => ?_) (fun y hy => hl y (List.mem_cons_of_mem _ hy)) y hy
      rcases putStep_mem s c z y hy with h | h | h
      · exact hc y h
      · exact .inr h
      · rw [h]; exact .inl (hl z (List.mem_cons_self ..))
  have key := go q ([], false) (fun y hy => by cases hy) (fun y hy => hy)
  unfold putQ at h
  dsimp only at h
  split at h
  · exact key x h
  · rcases List.mem_append.1 h with h | h
    · exact key x h
    · exact .inr (List.mem_singleton.1 h)
/-- what lies above is kept -/
def Above (M : Nat) (w w' : World) : Prop := w.heap.size ≤ w'.heap.size ∧ ∀ k, M ≤ k → k < w.heap.size → w'.heap[k]? = w.heap[k]?
theorem Above.of_below {M : Nat} {w w' : World} (h : Below w.heap.size w w') : Above M w w' := ⟨h.size, fun k _ hk => h.block k hk⟩
theorem Above.trans {M : Nat} {a b c : World} (h : Above M a b) (k : Above M b c) : Above M a c := ⟨Nat.le_trans h.1 k.1, fun i h1 h2 => (k.2 i h1 (Nat.lt_of_lt_of_le h2 h.1)).trans (h.2 i h1 h2)⟩
theorem Above.set {M : Nat} {w : World} {p : Addr} (hp : p.block < M) (u : Value) : Above M w (w.setCell p u) := ⟨by rw [World.size_setCell]; exact Nat.le_refl _, fun k h1 _ => Below.heap_setCell _ _ _ _ (by omega)⟩
theorem Above.six {M : Nat} (w : World) {b : Nat} (hb : b < M) (x0 x1 x2 x3 x4 x5 : Value) : Above M w (six w b x0 x1 x2 x3 x4 x5) :=
  (((((Above.set (p := ⟨b, 0, none⟩) hb x0).trans (Above.set (p := ⟨b, 1, none⟩) hb x1)).trans (Above.set (p := ⟨b, 2, none⟩) hb x2)).trans (Above.set (p := ⟨b, 3, none⟩) hb x3)).trans (Above.set (p := ⟨b, 4, none⟩) hb x4)).trans (Above.set (p := ⟨b, 5, none⟩) hb x5)
theorem RowIs.above {w w' : World} {v : Value} {q : List (RSec × Value)} {M : Nat} (h : RowIs w v q) (hA : Above M w w') (hv : ∀ b m c, v = .slice (some b) m c → M ≤ b.block) (hs : ∀ x ∈ q, SecIs w' x) : RowIs w' v q := by
  refine ⟨?_, hs, h.len⟩
  rcases h.form with h | ⟨g, cap, h1, h2, h3⟩
  · exact .inl h
  · exact .inr ⟨g, cap, h1, by have := hA.1; omega, fun j x hx => (World.cell?_of_block (w := w) (a := ⟨g, j, none⟩) (hA.2 g (hv _ _ _ h1) h2)).trans (h3 j x hx)⟩
theorem own_above {w w' : World} {base : Nat} {e : TypeId} {size n : Nat} {v : Value} {xs : List Value} (h : w.ownsRow base e size v n xs) (hA : Above base w w') : w'.ownsRow base e size v n xs := by
  obtain ⟨h1, h2⟩ := h
  refine ⟨h1, ?_⟩
  rcases h2 with h2 | ⟨g, cap, cur, hv, hb, hg, r⟩
  · exact .inl h2
  · refine .inr ⟨g, cap, cur, hv, hb, ?_, r⟩
    rw [hA.2 g hb (Array.getElem?_eq_some_iff.1 hg).1]; exact hg
theorem six_other {w : World} {g b : Nat} {t : TypeId} {cs : Array Value} (h : Blk w g t cs) (hne : g ≠ b) (x0 x1 x2 x3 x4 x5 : Value) : Blk (six w b x0 x1 x2 x3 x4 x5) g t cs :=
  blk_other (blk_other (blk_other (blk_other (blk_other (blk_other h hne x0) hne x1) hne x2) hne x3) hne x4) hne x5
def four (w : World) (b : Nat) (x0 x1 x2 x3 : Value) : World := (((w.setCell ⟨b, 0, none⟩ x0).setCell ⟨b, 1, none⟩ x1).setCell ⟨b, 2, none⟩ x2).setCell ⟨b, 3, none⟩ x3
theorem four_blk {w : World} {b : Nat} {T : TypeId} {c0 c1 c2 c3 : Value} (h : Blk w b T #[c0, c1, c2, c3]) (x0 x1 x2 x3 : Value) : Blk (four w b x0 x1 x2 x3) b T #[x0, x1, x2, x3] := by
  have := (((h.set 0 x0).set 1 x1).set 2 x2).set 3 x3
  exact this
theorem four_other {w : World} {g b : Nat} {t : TypeId} {cs : Array Value} (h : Blk w g t cs) (hne : g ≠ b) (x0 x1 x2 x3 : Value) : Blk (four w b x0 x1 x2 x3) g t cs :=
  blk_other (blk_other (blk_other (blk_other h hne x0) hne x1) hne x2) hne x3
theorem four_below {w0 w : World} {B b : Nat} (h : Below B w0 w) (hb : B ≤ b) (x0 x1 x2 x3 : Value) : Below B w0 (four w b x0 x1 x2 x3) :=
  (((h.setCell (p := ⟨b, 0, none⟩) hb x0).setCell (p := ⟨b, 1, none⟩) hb x1).setCell (p := ⟨b, 2, none⟩) hb x2).setCell (p := ⟨b, 3, none⟩) hb x3
theorem vers_nil (w : World) : Vers (fun _ => True) w (.slice none 0 0) [] := ⟨by simp, none, 0, rfl, Nat.le_refl _, fun _ => ⟨rfl, rfl⟩, fun j hj => absurd hj (Nat.not_lt_zero _)⟩
theorem secR_lit (a n : Int) (L : List ByteArray) (sy : Bool) (u : Value) : secR ⟨a, n, L, sy⟩ u = #[.int .u64 a, .int .i64 n, u, .bool sy] := rfl
set_option maxRecDepth 100000 in
set_option maxHeartbeats 8000000 in
theorem rwrite_any (r : RSt) (v : Value) (q : List (RSec × Value)) (a n : Int) (bv : Value) (l : List Int) (w : World) (h : RDisk w v r q) (hl : q.length < 2932031007390)
    (hs : 0 ≤ r.steps ∧ r.steps ≤ 4611686018427387904) (hleft : r.armed = true → 0 ≤ r.left) (hleft2 : r.left ≤ 9223372036854775807) (hroom : 0 ≤ r.room ∧ r.room + (q.length : Nat) ≤ 9223372036854775807)
    (hI : Ints w .u8 bv l) (hl255 : ∀ x ∈ l, 0 ≤ x ∧ x ≤ 255) (hV : ∀ x ∈ q, x.1.L.length < 4398046511103) :
    Calls Try.prog 37 #[.agg (diskR r v), .int .u64 a, .int .i64 n, bv] w (AnsR w v q (WriteR r a n l)) := by
  obtain ⟨av, cv, rfl⟩ := h.1.slice
  obtain ⟨bn, cn, rfl⟩ := Ints.form hI
  have HR := Lib.hid h
  have HI := Lib.hid hI
  have HV := Lib.hid hV
  have HL := Lib.hid hl255
  have hI0 := hI.1
  obtain ⟨room, steps, left, armed, dead, rl⟩ := r
  dsimp only at hs hleft hleft2 hroom
  obtain ⟨B, hB⟩ : ∃ B, w.heap.size = B := ⟨_, rfl⟩
  obtain ⟨js, hj, hjz0, hjz1, hjz2⟩ := str_info
  cases dead
  · by_cases hbad : BadR n l
    · have HW := Lib.hid (WriteR.form (r := ⟨room, steps, left, armed, false, rl⟩) (a := a) rfl hbad)
      have hb2 : n < 0 ∨ 65536 ≤ n ∨ 64 < (l.length : Int) := by unfold BadR at hbad; omega
      clear hbad
      unfold diskR
      dsimp only
      by_cases h0 : n < 0
      · clear h hI hV hl255
        go_enter Try.func37, Try.ntmps37
        go_wp2_with fail
        refine bodyPost_ret (results_cellT rfl _ _ (B + 1) rfl _ rfl _ #[.int .i64 room, .int .i64 steps, .int .i64 left, .bool armed, .bool false, .slice av q.length cv] (by rw [← hB]; exact two_blk _ _ _ _) _ Try.underlying40 rfl size_disk) rfl ?_
        exact ⟨_, q, _, _, rfl, HW.out, ⟨HR.out.1.below (two_under _ _ _), HR.out.2⟩, fun k hk => .inl hk, two_under _ _ _⟩
      · by_cases h1 : 65536 ≤ n
        · clear h hI hV hl255
          have h00 : 0 ≤ n := by omega
          go_enter Try.func37, Try.ntmps37
          go_wp2_with fail
          refine bodyPost_ret (results_cellT rfl _ _ (B + 1) rfl _ rfl _ #[.int .i64 room, .int .i64 steps, .int .i64 left, .bool armed, .bool false, .slice av q.length cv] (by rw [← hB]; exact two_blk _ _ _ _) _ Try.underlying40 rfl size_disk) rfl ?_
          exact ⟨_, q, _, _, rfl, HW.out, ⟨HR.out.1.below (two_under _ _ _), HR.out.2⟩, fun k hk => .inl hk, two_under _ _ _⟩
        · clear h hI hV hl255
          have h00 : 0 ≤ n := by omega
          have h11 : n < 65536 := by omega
          have h22 : 64 < (l.length : Int) := by omega
          go_enter Try.func37, Try.ntmps37
          go_wp2_with fail
          refine bodyPost_ret (results_cellT rfl _ _ (B + 1) rfl _ rfl _ #[.int .i64 room, .int .i64 steps, .int .i64 left, .bool armed, .bool false, .slice av q.length cv] (by rw [← hB]; exact two_blk _ _ _ _) _ Try.underlying40 rfl size_disk) rfl ?_
          exact ⟨_, q, _, _, rfl, HW.out, ⟨HR.out.1.below (two_under _ _ _), HR.out.2⟩, fun k hk => .inl hk, two_under _ _ _⟩
    · have hok : 0 ≤ n ∧ n < 65536 ∧ (l.length : Int) ≤ 64 := by unfold BadR at hbad; omega
      obtain ⟨h0, h1, h2⟩ := hok
      have HBAD := Lib.hid hbad
      obtain ⟨W1, hW1⟩ : ∃ W1, (((w.alloc (.cells #[.int .i64 room, .int .i64 steps, .int .i64 left, .bool armed, .bool false, .slice av q.length cv] 40)).alloc (.cells #[.int .i64 0, .int .i64 0, .int .i64 0, .bool false, .bool false, .slice none 0 0] 40)).alloc (.cells #[.int .u64 a, .int .i64 n, .slice none 0 0, .bool false] 76)) = W1 := ⟨_, rfl⟩
      have hb1 : Below w.heap.size w W1 := by rw [← hW1]; exact (((Below.refl _ _).alloc (Nat.le_refl _) _).alloc (by simp) _).alloc (by simp; omega) _
      have hz1 : W1.heap.size = B + 3 := by rw [← hW1, ← hB]; simp
      have bA : Blk W1 B 40 #[.int .i64 room, .int .i64 steps, .int .i64 left, .bool armed, .bool false, .slice av q.length cv] := by
        rw [← hW1, ← hB]; exact ((Blk.alloc_new _ _ _).below ((Below.refl _ _).alloc (Nat.le_refl _) _) (by simp)).below ((Below.refl _ _).alloc (Nat.le_refl _) _) (by simp; omega)
      have bR : Blk W1 (B + 1) 40 #[.int .i64 0, .int .i64 0, .int .i64 0, .bool false, .bool false, .slice none 0 0] := by
        rw [← hW1, ← hB]; exact (two_blk _ _ _ _).below ((Below.refl _ _).alloc (Nat.le_refl _) _) (by simp)
      have bS : Blk W1 (B + 1 + 1) 76 #[.int .u64 a, .int .i64 n, .slice none 0 0, .bool false] := by
        rw [← hW1]
        have e : B + 1 + 1 = ((w.alloc (.cells #[.int .i64 room, .int .i64 steps, .int .i64 left, .bool armed, .bool false, .slice av q.length cv] 40)).alloc (.cells #[.int .i64 0, .int .i64 0, .int .i64 0, .bool false, .bool false, .slice none 0 0] 40)).heap.size := by rw [← hB]; simp
        rw [e]; exact Blk.alloc_new _ _ _
      have HB1 := Lib.hid hb1
      have HW1 := Lib.hid hW1
      have HZ1 := Lib.hid hz1
      have HBA := Lib.hid bA
      have HBR := Lib.hid bR
      have HBS := Lib.hid bS
      have HQ := Lib.hid (h.1.below hb1)
      unfold diskR
      dsimp only
      clear h hI hV hl255 hbad hb1 hz1 bA bR bS hW1
      go_enter Try.func37, Try.ntmps37
      go_wp2_with fail
      try rw [hB]
      try rw [HW1.out]
      refine (rat_any ⟨room, steps, left, armed, false, rl⟩ (.slice av q.length cv) q a n W1 HQ.out).mono ?_
      rintro e w2 ⟨x, rfl, hat, hb2⟩
      have bA2 := HBA.out.below hb2 (by have := HZ1.out; omega)
      have bR2 := HBR.out.below hb2 (by have := HZ1.out; omega)
      have bS2 := HBS.out.below hb2 (by have := HZ1.out; omega)
      have hz2 : B + 3 ≤ w2.heap.size := by have := HZ1.out; have := hb2.size; omega
      have HB2 := Lib.hid (show Below B w w2 by have e := HB1.out; rw [hB] at e; exact e.trans (hb2.mono (by have := HZ1.out; omega)))
      obtain ⟨a0, a1, a2, a3, a4, a5⟩ := blk6 bA2
      obtain ⟨f0, f1, f2, f3, f4, f5⟩ := frees bA2
      obtain ⟨r0, r1, r2, r3, r4, r5⟩ := blk6 bR2
      obtain ⟨g0, g1, g2, g3, g4, g5⟩ := frees bR2
      obtain ⟨s0, s1, s2, s3⟩ := blk4 bS2
      obtain ⟨i0, i1, i2, i3, _, _⟩ := frees bS2
      clear hb2
      rcases hat with ⟨rfl, hno⟩ | ⟨i, s, hqi, rfl, hsa, hsn⟩
      · have HNO := Lib.hid (show ∀ s ∈ rl, ¬ (s.area = a ∧ s.n = n) by
          intro s hs
          have e : q.map (·.1) = rl := HR.out.2
          rw [← e] at hs
          obtain ⟨y, hy, rfl⟩ := List.mem_map.1 hs
          exact hno y hy)
        clear hno
        by_cases hr0 : room = 0
        · have HW := Lib.hid (WriteR.full (r := ⟨room, steps, left, armed, false, rl⟩) (a := a) (n := n) (l := l) rfl HBAD.out HNO.out hr0)
          subst hr0
          go_wp2_with fail
          refine bodyPost_ret (results_cellT rfl _ _ (B + 1) rfl _ rfl _ #[.int .i64 0, .int .i64 steps, .int .i64 left, .bool armed, .bool false, .slice av q.length cv] (six_blk bR2 _ _ _ _ _ _) _ Try.underlying40 rfl size_disk) rfl ?_
          have hbf := six_below HB2.out (b := B + 1) (by omega) (.int .i64 0) (.int .i64 steps) (.int .i64 left) (.bool armed) (.bool false) (.slice av q.length cv)
          exact ⟨_, q, _, _, rfl, HW.out, ⟨HR.out.1.below (by rw [hB]; exact hbf), HR.out.2⟩, fun k hk => .inl hk, by rw [hB]; exact hbf⟩
        · have hr1 : 1 ≤ room := by omega
          obtain ⟨rm, hrm⟩ : ∃ rm, room - 1 = rm := ⟨_, rfl⟩
          have w1 : wrap64 (room - 1) = rm := by rw [← hrm]; exact IntWalk.wrap64_in _ (by omega)
          have w2' : IntKind.i64.wrap (room - 1) = rm := by rw [← hrm]; exact IntWalk.i64_in _ (by omega)
          obtain ⟨w3, hw3⟩ : ∃ w3, (w2.setCell ⟨B, 0, none⟩ (.int .i64 rm)).alloc (.cells #[] 9) = w3 := ⟨_, rfl⟩
          have hb3 : Below w2.heap.size ((w2.setCell ⟨B, 0, none⟩ (.int .i64 rm)).alloc (.cells #[] 9)) w3 := by rw [hw3]; exact Below.refl _ _
          have hown3 : w3.ownsRow w2.heap.size 9 1 (.slice (some ⟨w2.heap.size, 0, none⟩) 0 0) 0 [] := by
            have e := owns_none (w2.setCell ⟨B, 0, none⟩ (.int .i64 rm)) 9 w2.heap.size (by simp)
            rw [← hw3]; simpa using e
          have HW3 := Lib.hid hw3
          have bA3 : Blk w3 B 40 #[.int .i64 rm, .int .i64 steps, .int .i64 left, .bool armed, .bool false, .slice av q.length cv] := Blk.below (Blk.below (show Blk (w2.setCell ⟨B, 0, none⟩ (.int .i64 rm)) B 40 #[.int .i64 rm, .int .i64 steps, .int .i64 left, .bool armed, .bool false, .slice av q.length cv] from bA2.set 0 (.int .i64 rm)) ((Below.refl _ _).alloc (Nat.le_refl _) _) (by simp; omega)) hb3 (by omega)
          have bR3 : Blk w3 (B + 1) 40 #[.int .i64 0, .int .i64 0, .int .i64 0, .bool false, .bool false, .slice none 0 0] := Blk.below (Blk.below (blk_other bR2 (b := B) (j := 0) (by omega) (.int .i64 rm)) ((Below.refl _ _).alloc (Nat.le_refl _) _) (by simp; omega)) hb3 (by omega)
          have bS3 : Blk w3 (B + 1 + 1) 76 #[.int .u64 a, .int .i64 n, .slice none 0 0, .bool false] := Blk.below (Blk.below (blk_other bS2 (b := B) (j := 0) (by omega) (.int .i64 rm)) ((Below.refl _ _).alloc (Nat.le_refl _) _) (by simp; omega)) hb3 (by omega)
          have HB3 := Lib.hid (HB2.out.trans ((((Below.refl B w2).setCell (p := ⟨B, 0, none⟩) (Nat.le_refl _) (.int .i64 rm)).alloc (by simp; omega) (.cells #[] 9)).trans (hb3.mono (by omega))))
          have l2 : ((w2.setCell ⟨B, 0, none⟩ (.int .i64 rm)).alloc (.cells #[] 9)).cell? ⟨B + 1 + 1, 2, none⟩ = some (.slice none 0 0) := by rw [hw3, Blk.cell bS3]; rfl
          clear hw3
          go_wp2_with fail
          rw [HW3.out]
          have hM : w2.heap.size ≤ w3.heap.size := by have := hb3.size; simp at this; omega
          obtain ⟨M, hMe⟩ : ∃ M, w2.heap.size = M := ⟨_, rfl⟩
          rw [hMe] at hown3 hM hz2 ⊢
          clear l2 hb3 hMe bA2 bR2 bS2 a0 a1 a2 a3 a4 a5 f0 f1 f2 f3 f4 f5 r0 r1 r2 r3 r4 r5 g0 g1 g2 g3 g4 g5 s0 s1 s2 s3 i0 i1 i2 i3 HBA HBR HBS
          refine (rwhole_any _ l w3 (HI.out.below (by rw [hB]; exact HB3.out)) (by omega) HL.out).mono ?_
          rintro e w4 ⟨rfl, hb4⟩
          obtain ⟨X, hX⟩ : ∃ X, wholeI l = X := ⟨_, rfl⟩
          rw [hX]
          have HX := Lib.hid hX
          clear hX
          have bA4 := bA3.below hb4 (Blk.lt bA3)
          have bR4 := bR3.below hb4 (Blk.lt bR3)
          have bS4 := bS3.below hb4 (Blk.lt bS3)
          have hown4 := owns_below hown3 hb4
          have hM4 : M ≤ w4.heap.size := by have := hb4.size; omega
          have HB4 := Lib.hid (HB3.out.trans (hb4.mono (by omega)))
          clear bA3 bR3 bS3 hown3 hb4
          go_wp2_with (at_builtin; refine wpList_push _ (by rfl) _ _ 64 rfl M 9 js (.string ByteArray.empty) 16 Try.underlying64 hj hjz0 hjz1 hjz2 rfl _ 0 _ rfl (hown4.alloc _) w4.heap.size (.string X) rfl (cell_new _ _ _ _ rfl) rfl (by unfold maxLen; omega) (by omega) (by simp; omega) ?_; intro v5 w5 hown5 hb5; obtain ⟨a5, c5, rfl⟩ := own_slice hown5; have hlo := ((Below.refl M w4).alloc hM4 (.cells #[.string X] 9)).trans hb5; have bA5 := bA4.below hlo (by omega); have bR5 := bR4.below hlo (by omega); have bS5 := bS4.below hlo (by omega); have HB5 := Lib.hid (HB4.out.trans (hlo.mono (by omega))); have hM5 := hb5.size; obtain ⟨s0, s1, s2, s3⟩ := blk4 bS5; obtain ⟨i0, i1, i2, i3, _, _⟩ := frees bS5; obtain ⟨a0, a1, a2, a3, a4, a5'⟩ := blk6 bA5; clear hb5 hlo)
          have hM5' : M ≤ w5.heap.size := by simp at hM5; omega
          have hown5w : (w5.setCell ⟨B + 1 + 1, 2, none⟩ (.slice a5 (0 + 1) c5)).ownsRow M 9 1 (.slice a5 (0 + 1) c5) (0 + 1) ([] ++ [.string X]) := ownsRow_setCell_below hown5 (a := ⟨B + 1 + 1, 2, none⟩) (by show B + 1 + 1 < M; omega) _
          have bA5w := blk_other bA5 (b := B + 1 + 1) (j := 2) (by omega) (.slice a5 (0 + 1) c5)
          have bR5w := blk_other bR5 (b := B + 1 + 1) (j := 2) (by omega) (.slice a5 (0 + 1) c5)
          have HB5w := Lib.hid (HB5.out.setCell (p := ⟨B + 1 + 1, 2, none⟩) (by show B ≤ B + 1 + 1; omega) (.slice a5 (0 + 1) c5))
          have hM6 : M ≤ (w5.setCell ⟨B + 1 + 1, 2, none⟩ (.slice a5 (0 + 1) c5)).heap.size := by rw [World.size_setCell]; exact hM5'
          obtain ⟨w6, hw6⟩ : ∃ w6, w5.setCell ⟨B + 1 + 1, 2, none⟩ (.slice a5 (0 + 1) c5) = w6 := ⟨_, rfl⟩
          rw [hw6] at hown5w bA5w bR5w HB5w hM6 ⊢
          clear hw6 bA4 bR4 bS4 hown4 bA5 bR5 bS5 hown5 HB5 HB4 HB3 s0 s1 s2 s3 i0 i1 i2 i3 a0 a1 a2 a3 a4 a5'
          have hownS : w6.ownsRow M 9 1 (.slice a5 (0 + 1) c5) (([] : List ByteArray) ++ [X]).length ((([] : List ByteArray) ++ [X]).map .string) := by simpa using hown5w
          have hsec : SecIs w6 (⟨a, n, ([] : List ByteArray) ++ [X], false⟩, .slice a5 (0 + 1) c5) := ⟨vers_of_own hownS (by first | (simp; done) | (simp; omega)), by simp⟩
          refine (rput_any ⟨rm, steps, left, armed, false, rl⟩ (.slice av q.length cv) q (⟨a, n, ([] : List ByteArray) ++ [X], false⟩, .slice a5 (0 + 1) c5) w6 (HR.out.1.below (by rw [hB]; exact HB5w.out)) hsec hl).mono ?_
          rintro e w7 ⟨v7, rfl, hrow7, hfr7, hb7⟩
          have bA7 := bA5w.below hb7 (by omega)
          have bR7 := bR5w.below hb7 (by omega)
          have hownS7 := owns_below hownS hb7
          have HB7 := Lib.hid (HB5w.out.trans (hb7.mono (by omega)))
          have hM7 : M ≤ w7.heap.size := by have := hb7.size; omega
          have HFR := Lib.hid (fun b m c hv => Nat.le_trans hM6 (hfr7 b m c hv))
          have HPM := Lib.hid (put_map q (⟨a, n, ([] : List ByteArray) ++ [X], false⟩, .slice a5 (0 + 1) c5))
          obtain ⟨q7, hq7⟩ : ∃ q7, putQ q (⟨a, n, ([] : List ByteArray) ++ [X], false⟩, .slice a5 (0 + 1) c5) = q7 := ⟨_, rfl⟩
          have HQM := Lib.hid (fun (y : RSec × Value) (hy : y ∈ q7) => putQ_mem (q := q) (s := (⟨a, n, ([] : List ByteArray) ++ [X], false⟩, .slice a5 (0 + 1) c5)) (by rw [hq7]; exact hy))
          rw [hq7] at hrow7 HPM
          clear hq7 hsec hownS hown5w hb7 hfr7 hM5 bA5w bR5w HB5w
          obtain ⟨a7, c7, rfl⟩ := hrow7.slice
          obtain ⟨n7, hn7⟩ : ∃ n7, q7.length = n7 := ⟨_, rfl⟩
          have HROW := Lib.hid hrow7
          have HN7 := Lib.hid hn7
          rw [hn7]
          clear hrow7 hn7
          go_wp2_with fail
          have hst := rstep_any ⟨rm, steps, left, armed, false, rl⟩ a7 n7 c7 w7 hs hleft hleft2
          obtain ⟨LF, hLF⟩ : ∃ LF, (stepR ⟨rm, steps, left, armed, false, rl⟩).left = LF := ⟨_, rfl⟩
          obtain ⟨DE, hDE⟩ : ∃ DE, (stepR ⟨rm, steps, left, armed, false, rl⟩).dead = DE := ⟨_, rfl⟩
          obtain ⟨DD, hDD⟩ : ∃ DD, diesR ⟨rm, steps, left, armed, false, rl⟩ = DD := ⟨_, rfl⟩
          have hlit : ∀ v, diskR (stepR ⟨rm, steps, left, armed, false, rl⟩) v = #[.int .i64 rm, .int .i64 (steps + 1), .int .i64 LF, .bool armed, .bool DE, v] := fun v => by rw [← hLF, ← hDE]; rfl
          rw [hlit, hDD] at hst
          refine hst.mono ?_
          rintro e w8 ⟨rfl, hb8⟩
          have bA8 := bA7.below hb8 (by omega)
          have bR8 := bR7.below hb8 (by omega)
          obtain ⟨a0, a1, a2, a3, a4, a5'⟩ := blk6 bA8
          obtain ⟨f0, f1, f2, f3, f4, f5⟩ := frees bA8
          obtain ⟨r0, r1, r2, r3, r4, r5⟩ := blk6 bR8
          obtain ⟨g0, g1, g2, g3, g4, g5⟩ := frees bR8
          have HB8 := Lib.hid (HB7.out.trans (hb8.mono (by omega)))
          have HA8 := Lib.hid (Above.of_below (M := M) hb8)
          have HOS := Lib.hid (owns_below hownS7 hb8)
          have HLIT := Lib.hid hlit
          have HDD := Lib.hid hDD
          clear hst hb8 bA7 bR7 hlit hLF hDE hDD hownS7 HB7
          cases DD
          · go_wp2_with fail
            refine bodyPost_ret (results_cellT rfl _ _ (B + 1) rfl _ rfl _ #[.int .i64 rm, .int .i64 (steps + 1), .int .i64 LF, .bool armed, .bool DE, .slice a7 n7 c7] (six_blk (six_other bR8 (b := B) (by omega) _ _ _ _ _ _) _ _ _ _ _ _) _ Try.underlying40 rfl size_disk) rfl ?_
            refine ⟨.slice a7 n7 c7, q7, stepR { room := rm, steps := steps, left := left, armed := armed, dead := false, l := putR rl ⟨a, n, ([] : List ByteArray) ++ [X], false⟩ }, 0, ?_, ?_, ⟨?_, ?_⟩, ?_, ?_⟩
            · have e : diskR (stepR { room := rm, steps := steps, left := left, armed := armed, dead := false, l := putR rl ⟨a, n, ([] : List ByteArray) ++ [X], false⟩ }) (.slice a7 n7 c7) = _ := HLIT.out (.slice a7 n7 c7)
              first | (rw [e]; done) | (rw [e]; rfl)
            · have hw := WriteR.fresh (r := ⟨room, steps, left, armed, false, rl⟩) (a := a) (n := n) (l := l) rfl HBAD.out HNO.out hr0
              have e2 : diesR ⟨room, steps, left, armed, false, rl⟩ = _ := HDD.out
              rw [e2, HX.out] at hw
              dsimp only at hw
              rw [hrm] at hw
              exact hw
            · have hB2 := six_below (six_below HB8.out (b := B) (Nat.le_refl _) (.int .i64 rm) (.int .i64 (steps + 1)) (.int .i64 LF) (.bool armed) (.bool DE) (.slice a7 n7 c7)) (b := B + 1) (by omega) (.int .i64 rm) (.int .i64 (steps + 1)) (.int .i64 LF) (.bool armed) (.bool DE) (.slice a7 n7 c7)
              have hAb := (Above.six (M := M) w8 (b := B) (by omega) (.int .i64 rm) (.int .i64 (steps + 1)) (.int .i64 LF) (.bool armed) (.bool DE) (.slice a7 n7 c7)).trans (Above.six (M := M) _ (b := B + 1) (by omega) (.int .i64 rm) (.int .i64 (steps + 1)) (.int .i64 LF) (.bool armed) (.bool DE) (.slice a7 n7 c7))
              have hrow := HROW.out
              have hfr := HFR.out
              rw [HN7.out] at hrow hfr
              refine hrow.above (HA8.out.trans hAb) hfr (fun y hy => ?_)
              rcases HQM.out y hy with h | h
              · exact (HR.out.1.secs y h).below (by rw [hB]; exact hB2)
              · rw [h]; exact ⟨vers_of_own (own_above HOS.out hAb) (by first | (simp; done) | (simp; omega)), by simp⟩
            · have e : q.map (·.1) = rl := HR.out.2
              have e2 := HPM.out
              rw [e] at e2
              exact e2
            · intro k hk
              have hfr := HFR.out
              rw [HN7.out] at hfr
              rcases hk with ⟨b, m, c, hv, rfl⟩ | ⟨y, hy, b, m, c, hv, rfl⟩
              · exact .inr (by have := hfr b m c hv; omega)
              · rcases HQM.out y hy with h | h
                · exact .inl (.inr ⟨y, h, b, m, c, hv, rfl⟩)
                · rw [h] at hv; exact .inr (by have := own_fresh HOS.out b m c hv; omega)
            · rw [hB]; exact six_below (six_below HB8.out (b := B) (Nat.le_refl _) (.int .i64 rm) (.int .i64 (steps + 1)) (.int .i64 LF) (.bool armed) (.bool DE) (.slice a7 n7 c7)) (b := B + 1) (by omega) (.int .i64 rm) (.int .i64 (steps + 1)) (.int .i64 LF) (.bool armed) (.bool DE) (.slice a7 n7 c7)
          · go_wp2_with fail
            refine bodyPost_ret (results_cellT rfl _ _ (B + 1) rfl _ rfl _ #[.int .i64 rm, .int .i64 (steps + 1), .int .i64 LF, .bool armed, .bool DE, .slice a7 n7 c7] (six_blk (six_other bR8 (b := B) (by omega) _ _ _ _ _ _) _ _ _ _ _ _) _ Try.underlying40 rfl size_disk) rfl ?_
            refine ⟨.slice a7 n7 c7, q7, stepR { room := rm, steps := steps, left := left, armed := armed, dead := false, l := putR rl ⟨a, n, ([] : List ByteArray) ++ [X], false⟩ }, 30, ?_, ?_, ⟨?_, ?_⟩, ?_, ?_⟩
            · have e : diskR (stepR { room := rm, steps := steps, left := left, armed := armed, dead := false, l := putR rl ⟨a, n, ([] : List ByteArray) ++ [X], false⟩ }) (.slice a7 n7 c7) = _ := HLIT.out (.slice a7 n7 c7)
              first | (rw [e]; done) | (rw [e]; rfl)
            · have hw := WriteR.fresh (r := ⟨room, steps, left, armed, false, rl⟩) (a := a) (n := n) (l := l) rfl HBAD.out HNO.out hr0
              have e2 : diesR ⟨room, steps, left, armed, false, rl⟩ = _ := HDD.out
              rw [e2, HX.out] at hw
              dsimp only at hw
              rw [hrm] at hw
              exact hw
            · have hB2 := six_below (six_below HB8.out (b := B) (Nat.le_refl _) (.int .i64 rm) (.int .i64 (steps + 1)) (.int .i64 LF) (.bool armed) (.bool DE) (.slice a7 n7 c7)) (b := B + 1) (by omega) (.int .i64 rm) (.int .i64 (steps + 1)) (.int .i64 LF) (.bool armed) (.bool DE) (.slice a7 n7 c7)
              have hAb := (Above.six (M := M) w8 (b := B) (by omega) (.int .i64 rm) (.int .i64 (steps + 1)) (.int .i64 LF) (.bool armed) (.bool DE) (.slice a7 n7 c7)).trans (Above.six (M := M) _ (b := B + 1) (by omega) (.int .i64 rm) (.int .i64 (steps + 1)) (.int .i64 LF) (.bool armed) (.bool DE) (.slice a7 n7 c7))
              have hrow := HROW.out
              have hfr := HFR.out
              rw [HN7.out] at hrow hfr
              refine hrow.above (HA8.out.trans hAb) hfr (fun y hy => ?_)
              rcases HQM.out y hy with h | h
              · exact (HR.out.1.secs y h).below (by rw [hB]; exact hB2)
              · rw [h]; exact ⟨vers_of_own (own_above HOS.out hAb) (by first | (simp; done) | (simp; omega)), by simp⟩
            · have e : q.map (·.1) = rl := HR.out.2
              have e2 := HPM.out
              rw [e] at e2
              exact e2
            · intro k hk
              have hfr := HFR.out
              rw [HN7.out] at hfr
              rcases hk with ⟨b, m, c, hv, rfl⟩ | ⟨y, hy, b, m, c, hv, rfl⟩
              · exact .inr (by have := hfr b m c hv; omega)
              · rcases HQM.out y hy with h | h
                · exact .inl (.inr ⟨y, h, b, m, c, hv, rfl⟩)
                · rw [h] at hv; exact .inr (by have := own_fresh HOS.out b m c hv; omega)
            · rw [hB]; exact six_below (six_below HB8.out (b := B) (Nat.le_refl _) (.int .i64 rm) (.int .i64 (steps + 1)) (.int .i64 LF) (.bool armed) (.bool DE) (.slice a7 n7 c7)) (b := B + 1) (by omega) (.int .i64 rm) (.int .i64 (steps + 1)) (.int .i64 LF) (.bool armed) (.bool DE) (.slice a7 n7 c7)
      · have HAG := Lib.hid (WriteR.again (r := ⟨room, steps, left, armed, false, rl⟩) (a := a) (n := n) (l := l) s.1 rfl HBAD.out (by have e : q.map (·.1) = rl := HR.out.2; rw [← e]; exact List.mem_map.2 ⟨s, List.mem_of_getElem? hqi, rfl⟩) hsa hsn)
        have hrow2 : RowIs w2 (.slice av q.length cv) q := HR.out.1.below (by rw [hB]; exact HB2.out)
        obtain ⟨g, rfl, hg, k0, k1, k2, k3⟩ := hrow2.at_ hqi
        have hVs := HV.out s (List.mem_of_getElem? hqi)
        obtain ⟨⟨_, ua, uc, hu, _⟩, hne⟩ := hrow2.secs s (List.mem_of_getElem? hqi)
        have hsec0 := HR.out.1.secs s (List.mem_of_getElem? hqi)
        have hiq : (i : Int) < (q.length : Int) := by have := (List.getElem?_eq_some_iff.1 hqi).1; omega
        have i00 : (0 : Int) ≤ (i : Int) := by omega
        rw [hsa] at k0
        rw [hsn] at k1
        rw [hu] at k2
        obtain ⟨sL, hsL⟩ : ∃ sL, s.1.L = sL := ⟨_, rfl⟩
        obtain ⟨ss, hss⟩ : ∃ ss, s.1.sync = ss := ⟨_, rfl⟩
        rw [hsL] at k2 hVs hu
        rw [hss] at k3
        have bA2f := four_other bA2 (b := B + 1 + 1) (by omega) (.int .u64 a) (.int .i64 n) (.slice ua sL.length uc) (.bool ss)
        have bR2f := four_other bR2 (b := B + 1 + 1) (by omega) (.int .u64 a) (.int .i64 n) (.slice ua sL.length uc) (.bool ss)
        have bS2f := four_blk bS2 (.int .u64 a) (.int .i64 n) (.slice ua sL.length uc) (.bool ss)
        have hbf := four_below HB2.out (b := B + 1 + 1) (by omega) (.int .u64 a) (.int .i64 n) (.slice ua sL.length uc) (.bool ss)
        have hzf : (four w2 (B + 1 + 1) (.int .u64 a) (.int .i64 n) (.slice ua sL.length uc) (.bool ss)).heap.size = w2.heap.size := by unfold four; simp only [World.size_setCell]
        obtain ⟨wf, hwf⟩ : ∃ wf, four w2 (B + 1 + 1) (.int .u64 a) (.int .i64 n) (.slice ua sL.length uc) (.bool ss) = wf := ⟨_, rfl⟩
        have hver : Vers (fun _ => True) (wf.alloc (.cells #[] 9)) (.slice ua sL.length uc) sL := by
          have e := (hsec0.below (w' := wf.alloc (.cells #[] 9)) (by rw [hB, ← hwf]; exact hbf.alloc (by rw [hzf]; omega) _)).1
          rw [hu, hsL] at e; exact e
        rw [hwf] at bA2f bR2f bS2f hbf hzf
        have HSL := Lib.hid hsL
        have HSS := Lib.hid hss
        have HWF := Lib.hid hwf
        have HQI := Lib.hid hqi
        have HZF := Lib.hid hzf
        have HBF := Lib.hid hbf
        have l2 : (wf.alloc (.cells #[] 9)).cell? ⟨B + 1 + 1, 2, none⟩ = some (.slice ua sL.length uc) := by
          have e : Blk (wf.alloc (.cells #[] 9)) (B + 1 + 1) 76 #[.int .u64 a, .int .i64 n, .slice ua sL.length uc, .bool ss] := bS2f.below ((Below.refl _ _).alloc (Nat.le_refl _) _) (by omega)
          rw [Blk.cell e]; rfl
        rw [← hwf] at l2
        unfold four at l2
        clear hsL hss hsa hsn hu hwf hqi hzf hbf hrow2 hsec0 hne hg
        go_wp2_with (at_builtin; refine wpList_append_strs _ (by rfl) _ _ 64 rfl w2.heap.size 9 js (.string ByteArray.empty) 16 Try.underlying64 hj hjz0 hjz1 hjz2 rfl (.slice (some ⟨w2.heap.size, 0, none⟩) 0 0) 0 [] rfl (by have e := owns_none wf 9 w2.heap.size (by rw [HZF.out]; exact Nat.le_refl _); rw [HZF.out] at e; rw [← HWF.out] at e; exact e) (.slice ua sL.length uc) sL rfl (by have e := hver; rw [← HWF.out] at e; exact e) (by unfold maxLen; omega) (by omega) (by simp) ?_; intro v3 w3 hown3 hb3)
        have hb3' : Below w2.heap.size (wf.alloc (.cells #[] 9)) w3 := by rw [← HWF.out]; exact hb3
        have bA3 := Blk.below (bA2f.below ((Below.refl _ _).alloc (Nat.le_refl _) (.cells #[] 9)) (by have := HZF.out; omega)) hb3' (by omega)
        have bR3 := Blk.below (bR2f.below ((Below.refl _ _).alloc (Nat.le_refl _) (.cells #[] 9)) (by have := HZF.out; omega)) hb3' (by omega)
        have bS3 := Blk.below (bS2f.below ((Below.refl _ _).alloc (Nat.le_refl _) (.cells #[] 9)) (by have := HZF.out; omega)) hb3' (by omega)
        have HB3 := Lib.hid ((HBF.out.alloc (by have := HZF.out; omega) (.cells #[] 9)).trans (hb3'.mono (by omega)))
        have hM : w2.heap.size ≤ w3.heap.size := by have := hb3'.size; have := HZF.out; simp at *; omega
        rw [Nat.zero_add, List.nil_append] at hown3
        obtain ⟨M, hMe⟩ : ∃ M, w2.heap.size = M := ⟨_, rfl⟩
        rw [hMe] at hown3 hM hz2
        try rw [hMe]
        clear l2 hver hb3 hb3' bA2f bR2f bS2f HWF HZF HBF hMe bA2 bR2 bS2 a0 a1 a2 a3 a4 a5 f0 f1 f2 f3 f4 f5 r0 r1 r2 r3 r4 r5 g0 g1 g2 g3 g4 g5 s0 s1 s2 s3 i0 i1 i2 i3 HBA HBR HBS k0 k1 k2 k3
        refine (rwhole_any _ l w3 (HI.out.below (by rw [hB]; exact HB3.out)) (by omega) HL.out).mono ?_
        rintro e w4 ⟨rfl, hb4⟩
        obtain ⟨X, hX⟩ : ∃ X, wholeI l = X := ⟨_, rfl⟩
        rw [hX]
        have HX := Lib.hid hX
        clear hX
        have bA4 := bA3.below hb4 (Blk.lt bA3)
        have bR4 := bR3.below hb4 (Blk.lt bR3)
        have bS4 := bS3.below hb4 (Blk.lt bS3)
        have hown4 := owns_below hown3 hb4
        have hM4 : M ≤ w4.heap.size := by have := hb4.size; omega
        have HB4 := Lib.hid (HB3.out.trans (hb4.mono (by omega)))
        clear bA3 bR3 bS3 hown3 hb4
        go_wp2_with (at_builtin; refine wpList_push _ (by rfl) _ _ 64 rfl M 9 js (.string ByteArray.empty) 16 Try.underlying64 hj hjz0 hjz1 hjz2 rfl _ sL.length _ rfl (hown4.alloc _) w4.heap.size (.string X) rfl (cell_new _ _ _ _ rfl) rfl (by unfold maxLen; omega) (by omega) (by simp; omega) ?_; intro v5 w5 hown5 hb5; obtain ⟨a5, c5, rfl⟩ := own_slice hown5; have hlo := ((Below.refl M w4).alloc hM4 (.cells #[.string X] 9)).trans hb5; have bA5 := bA4.below hlo (by omega); have bR5 := bR4.below hlo (by omega); have bS5 := bS4.below hlo (by omega); have HB5 := Lib.hid (HB4.out.trans (hlo.mono (by omega))); have hM5 := hb5.size; obtain ⟨s0, s1, s2, s3⟩ := blk4 bS5; obtain ⟨i0, i1, i2, i3, _, _⟩ := frees bS5; obtain ⟨a0, a1, a2, a3, a4, a5'⟩ := blk6 bA5; clear hb5 hlo)
        have hM5' : M ≤ w5.heap.size := by simp at hM5; omega
        have hown5w : (w5.setCell ⟨B + 1 + 1, 2, none⟩ (.slice a5 (sL.length + 1) c5)).ownsRow M 9 1 (.slice a5 (sL.length + 1) c5) (sL.length + 1) (sL.map .string ++ [.string X]) := ownsRow_setCell_below hown5 (a := ⟨B + 1 + 1, 2, none⟩) (by show B + 1 + 1 < M; omega) _
        have bA5w := blk_other bA5 (b := B + 1 + 1) (j := 2) (by omega) (.slice a5 (sL.length + 1) c5)
        have bR5w := blk_other bR5 (b := B + 1 + 1) (j := 2) (by omega) (.slice a5 (sL.length + 1) c5)
        have HB5w := Lib.hid (HB5.out.setCell (p := ⟨B + 1 + 1, 2, none⟩) (by show B ≤ B + 1 + 1; omega) (.slice a5 (sL.length + 1) c5))
        have hM6 : M ≤ (w5.setCell ⟨B + 1 + 1, 2, none⟩ (.slice a5 (sL.length + 1) c5)).heap.size := by rw [World.size_setCell]; exact hM5'
        obtain ⟨w6, hw6⟩ : ∃ w6, w5.setCell ⟨B + 1 + 1, 2, none⟩ (.slice a5 (sL.length + 1) c5) = w6 := ⟨_, rfl⟩
        rw [hw6] at hown5w bA5w bR5w HB5w hM6 ⊢
        clear hw6 bA4 bR4 bS4 hown4 bA5 bR5 bS5 hown5 HB5 HB4 HB3 s0 s1 s2 s3 i0 i1 i2 i3 a0 a1 a2 a3 a4 a5'
        have hownS : w6.ownsRow M 9 1 (.slice a5 (sL.length + 1) c5) (sL ++ [X]).length ((sL ++ [X]).map .string) := by simpa using hown5w
        have hsec : SecIs w6 (⟨a, n, sL ++ [X], ss⟩, .slice a5 (sL.length + 1) c5) := ⟨vers_of_own hownS (by first | (simp; done) | (simp; omega)), by simp⟩
        refine (rput_any ⟨room, steps, left, armed, false, rl⟩ (.slice (some ⟨g, 0, none⟩) q.length cv) q (⟨a, n, sL ++ [X], ss⟩, .slice a5 (sL.length + 1) c5) w6 (HR.out.1.below (by rw [hB]; exact HB5w.out)) hsec hl).mono ?_
        rintro e w7 ⟨v7, rfl, hrow7, hfr7, hb7⟩
        have bA7 := bA5w.below hb7 (by omega)
        have bR7 := bR5w.below hb7 (by omega)
        have hownS7 := owns_below hownS hb7
        have HB7 := Lib.hid (HB5w.out.trans (hb7.mono (by omega)))
        have hM7 : M ≤ w7.heap.size := by have := hb7.size; omega
        have HFR := Lib.hid (fun b m c hv => Nat.le_trans hM6 (hfr7 b m c hv))
        have HPM := Lib.hid (put_map q (⟨a, n, sL ++ [X], ss⟩, .slice a5 (sL.length + 1) c5))
        obtain ⟨q7, hq7⟩ : ∃ q7, putQ q (⟨a, n, sL ++ [X], ss⟩, .slice a5 (sL.length + 1) c5) = q7 := ⟨_, rfl⟩
        have HQM := Lib.hid (fun (y : RSec × Value) (hy : y ∈ q7) => putQ_mem (q := q) (s := (⟨a, n, sL ++ [X], ss⟩, .slice a5 (sL.length + 1) c5)) (by rw [hq7]; exact hy))
        rw [hq7] at hrow7 HPM
        clear hq7 hsec hownS hown5w hb7 hfr7 hM5 bA5w bR5w HB5w
        obtain ⟨a7, c7, rfl⟩ := hrow7.slice
        obtain ⟨n7, hn7⟩ : ∃ n7, q7.length = n7 := ⟨_, rfl⟩
        have HROW := Lib.hid hrow7
        have HN7 := Lib.hid hn7
        rw [hn7]
        clear hrow7 hn7
        go_wp2_with fail
        have hst := rstep_any ⟨room, steps, left, armed, false, rl⟩ a7 n7 c7 w7 hs hleft hleft2
        obtain ⟨LF, hLF⟩ : ∃ LF, (stepR ⟨room, steps, left, armed, false, rl⟩).left = LF := ⟨_, rfl⟩
        obtain ⟨DE, hDE⟩ : ∃ DE, (stepR ⟨room, steps, left, armed, false, rl⟩).dead = DE := ⟨_, rfl⟩
        obtain ⟨DD, hDD⟩ : ∃ DD, diesR ⟨room, steps, left, armed, false, rl⟩ = DD := ⟨_, rfl⟩
        have hlit : ∀ v, diskR (stepR ⟨room, steps, left, armed, false, rl⟩) v = #[.int .i64 room, .int .i64 (steps + 1), .int .i64 LF, .bool armed, .bool DE, v] := fun v => by rw [← hLF, ← hDE]; rfl
        rw [hlit, hDD] at hst
        refine hst.mono ?_
        rintro e w8 ⟨rfl, hb8⟩
        have bA8 := bA7.below hb8 (by omega)
        have bR8 := bR7.below hb8 (by omega)
        obtain ⟨a0, a1, a2, a3, a4, a5'⟩ := blk6 bA8
        obtain ⟨f0, f1, f2, f3, f4, f5⟩ := frees bA8
        obtain ⟨r0, r1, r2, r3, r4, r5⟩ := blk6 bR8
        obtain ⟨g0, g1, g2, g3, g4, g5⟩ := frees bR8
        have HB8 := Lib.hid (HB7.out.trans (hb8.mono (by omega)))
        have HA8 := Lib.hid (Above.of_below (M := M) hb8)
        have HOS := Lib.hid (owns_below hownS7 hb8)
        have HLIT := Lib.hid hlit
        have HDD := Lib.hid hDD
        clear hst hb8 bA7 bR7 hlit hLF hDE hDD hownS7 HB7
        cases DD
        · go_wp2_with fail
          refine bodyPost_ret (results_cellT rfl _ _ (B + 1) rfl _ rfl _ #[.int .i64 room, .int .i64 (steps + 1), .int .i64 LF, .bool armed, .bool DE, .slice a7 n7 c7] (six_blk (six_other bR8 (b := B) (by omega) _ _ _ _ _ _) _ _ _ _ _ _) _ Try.underlying40 rfl size_disk) rfl ?_
          refine ⟨.slice a7 n7 c7, q7, stepR { room := room, steps := steps, left := left, armed := armed, dead := false, l := putR rl ⟨a, n, sL ++ [X], ss⟩ }, 0, ?_, ?_, ⟨?_, ?_⟩, ?_, ?_⟩
          · have e : diskR (stepR { room := room, steps := steps, left := left, armed := armed, dead := false, l := putR rl ⟨a, n, sL ++ [X], ss⟩ }) (.slice a7 n7 c7) = _ := HLIT.out (.slice a7 n7 c7)
            first | (rw [e]; done) | (rw [e]; rfl)
          · have hw := HAG.out
            have e2 : diesR ⟨room, steps, left, armed, false, rl⟩ = _ := HDD.out
            rw [e2, HX.out, HSL.out, HSS.out] at hw
            exact hw
          · have hB2 := six_below (six_below HB8.out (b := B) (Nat.le_refl _) (.int .i64 room) (.int .i64 (steps + 1)) (.int .i64 LF) (.bool armed) (.bool DE) (.slice a7 n7 c7)) (b := B + 1) (by omega) (.int .i64 room) (.int .i64 (steps + 1)) (.int .i64 LF) (.bool armed) (.bool DE) (.slice a7 n7 c7)
            have hAb := (Above.six (M := M) w8 (b := B) (by omega) (.int .i64 room) (.int .i64 (steps + 1)) (.int .i64 LF) (.bool armed) (.bool DE) (.slice a7 n7 c7)).trans (Above.six (M := M) _ (b := B + 1) (by omega) (.int .i64 room) (.int .i64 (steps + 1)) (.int .i64 LF) (.bool armed) (.bool DE) (.slice a7 n7 c7))
            have hrow := HROW.out
            have hfr := HFR.out
            rw [HN7.out] at hrow hfr
            refine hrow.above (HA8.out.trans hAb) hfr (fun y hy => ?_)
            rcases HQM.out y hy with h | h
            · exact (HR.out.1.secs y h).below (by rw [hB]; exact hB2)
            · rw [h]; exact ⟨vers_of_own (own_above HOS.out hAb) (by first | (simp; done) | (simp; omega)), by simp⟩
          · have e : q.map (·.1) = rl := HR.out.2
            have e2 := HPM.out
            rw [e] at e2
            exact e2
          · intro k hk
            have hfr := HFR.out
            rw [HN7.out] at hfr
            rcases hk with ⟨b, m, c, hv, rfl⟩ | ⟨y, hy, b, m, c, hv, rfl⟩
            · exact .inr (by have := hfr b m c hv; omega)
            · rcases HQM.out y hy with h | h
              · exact .inl (.inr ⟨y, h, b, m, c, hv, rfl⟩)
              · rw [h] at hv; exact .inr (by have := own_fresh HOS.out b m c hv; omega)
          · rw [hB]; exact six_below (six_below HB8.out (b := B) (Nat.le_refl _) (.int .i64 room) (.int .i64 (steps + 1)) (.int .i64 LF) (.bool armed) (.bool DE) (.slice a7 n7 c7)) (b := B + 1) (by omega) (.int .i64 room) (.int .i64 (steps + 1)) (.int .i64 LF) (.bool armed) (.bool DE) (.slice a7 n7 c7)
        · go_wp2_with fail
          refine bodyPost_ret (results_cellT rfl _ _ (B + 1) rfl _ rfl _ #[.int .i64 room, .int .i64 (steps + 1), .int .i64 LF, .bool armed, .bool DE, .slice a7 n7 c7] (six_blk (six_other bR8 (b := B) (by omega) _ _ _ _ _ _) _ _ _ _ _ _) _ Try.underlying40 rfl size_disk) rfl ?_
          refine ⟨.slice a7 n7 c7, q7, stepR { room := room, steps := steps, left := left, armed := armed, dead := false, l := putR rl ⟨a, n, sL ++ [X], ss⟩ }, 30, ?_, ?_, ⟨?_, ?_⟩, ?_, ?_⟩
          · have e : diskR (stepR { room := room, steps := steps, left := left, armed := armed, dead := false, l := putR rl ⟨a, n, sL ++ [X], ss⟩ }) (.slice a7 n7 c7) = _ := HLIT.out (.slice a7 n7 c7)
            first | (rw [e]; done) | (rw [e]; rfl)
          · have hw := HAG.out
            have e2 : diesR ⟨room, steps, left, armed, false, rl⟩ = _ := HDD.out
            rw [e2, HX.out, HSL.out, HSS.out] at hw
            exact hw
          · have hB2 := six_below (six_below HB8.out (b := B) (Nat.le_refl _) (.int .i64 room) (.int .i64 (steps + 1)) (.int .i64 LF) (.bool armed) (.bool DE) (.slice a7 n7 c7)) (b := B + 1) (by omega) (.int .i64 room) (.int .i64 (steps + 1)) (.int .i64 LF) (.bool armed) (.bool DE) (.slice a7 n7 c7)
            have hAb := (Above.six (M := M) w8 (b := B) (by omega) (.int .i64 room) (.int .i64 (steps + 1)) (.int .i64 LF) (.bool armed) (.bool DE) (.slice a7 n7 c7)).trans (Above.six (M := M) _ (b := B + 1) (by omega) (.int .i64 room) (.int .i64 (steps + 1)) (.int .i64 LF) (.bool armed) (.bool DE) (.slice a7 n7 c7))
            have hrow := HROW.out
            have hfr := HFR.out
            rw [HN7.out] at hrow hfr
            refine hrow.above (HA8.out.trans hAb) hfr (fun y hy => ?_)
            rcases HQM.out y hy with h | h
            · exact (HR.out.1.secs y h).below (by rw [hB]; exact hB2)
            · rw [h]; exact ⟨vers_of_own (own_above HOS.out hAb) (by first | (simp; done) | (simp; omega)), by simp⟩
          · have e : q.map (·.1) = rl := HR.out.2
            have e2 := HPM.out
            rw [e] at e2
            exact e2
          · intro k hk
            have hfr := HFR.out
            rw [HN7.out] at hfr
            rcases hk with ⟨b, m, c, hv, rfl⟩ | ⟨y, hy, b, m, c, hv, rfl⟩
            · exact .inr (by have := hfr b m c hv; omega)
            · rcases HQM.out y hy with h | h
              · exact .inl (.inr ⟨y, h, b, m, c, hv, rfl⟩)
              · rw [h] at hv; exact .inr (by have := own_fresh HOS.out b m c hv; omega)
          · rw [hB]; exact six_below (six_below HB8.out (b := B) (Nat.le_refl _) (.int .i64 room) (.int .i64 (steps + 1)) (.int .i64 LF) (.bool armed) (.bool DE) (.slice a7 n7 c7)) (b := B + 1) (by omega) (.int .i64 room) (.int .i64 (steps + 1)) (.int .i64 LF) (.bool armed) (.bool DE) (.slice a7 n7 c7)

  · have HW := Lib.hid (WriteR.dead (r := ⟨room, steps, left, armed, true, rl⟩) (a := a) (n := n) (l := l) rfl)
    unfold diskR
    dsimp only
    clear h hI hV hl255
    go_enter Try.func37, Try.ntmps37
    go_wp2_with fail
    refine bodyPost_ret (results_cellT rfl _ _ (B + 1) rfl _ rfl _ #[.int .i64 room, .int .i64 steps, .int .i64 left, .bool armed, .bool true, .slice av q.length cv] (by rw [← hB]; exact two_blk _ _ _ _) _ Try.underlying40 rfl size_disk) rfl ?_
    exact ⟨_, q, _, _, rfl, HW.out, ⟨HR.out.1.below (two_under _ _ _), HR.out.2⟩, fun k hk => .inl hk, two_under _ _ _⟩
end Go.Proofs.Yteidmneenfdafaa.R
namespace Go.Proofs.Yteidmneenfdafaa.R
open Go.RowKit
open Aid K
set_option linter.unusedSimpArgs false
set_option linter.unusedVariables false

/-- a sector that was laid anew: one version, in a block of its own -/
def NewSec (M : Nat) (w : World) (x : RSec × Value) : Prop := ∃ b V, x.2 = .slice (some ⟨b, 0, none⟩) 1 1 ∧ M ≤ b ∧ w.heap[b]? = some (.cells #[.string V] 9) ∧ x.1.L = [V]
theorem NewSec.sec {M : Nat} {w : World} {x : RSec × Value} (h : NewSec M w x) : SecIs w x := by
  obtain ⟨b, V, h1, h2, h3, h4⟩ := h
  refine ⟨?_, by rw [h4]; simp⟩
  rw [h1, h4]
  refine ⟨by simp, _, 1, rfl, Nat.le_refl _, fun e => (nomatch e), fun j hj => ⟨b, 0, rfl, ⟨trivial, ⟨_, _, h3⟩⟩, ?_, ?_⟩⟩
  · exact (Array.getElem?_eq_some_iff.1 h3).1
  · have hj0 : j = 0 := by simpa using hj
    subst hj0
    have hB : Blk w b 9 #[.string V] := h3
    rw [Blk.cell hB]; rfl
theorem NewSec.keep {M : Nat} {w w' : World} {x : RSec × Value} (h : NewSec M w x) (hk : ∀ (b : Nat) (c : Array Value), w.heap[b]? = some (Obj.cells c 9) → w'.heap[b]? = w.heap[b]?) : NewSec M w' x := by
  obtain ⟨b, V, h1, h2, h3, h4⟩ := h
  exact ⟨b, V, h1, h2, by rw [hk b _ h3]; exact h3, h4⟩
/-- what a loop that lays a new row keeps -/
structure RowIn (w : World) (B M : Nat) (q : List (RSec × Value)) (v : Value) (acc : List (RSec × Value)) (G : List RSec) (i : Nat) (wr : World) : Prop where
  own : wr.ownsRow M 76 4 v acc.length (rowR acc)
  secs : ∀ x ∈ acc, x ∈ q ∨ NewSec M wr x
  eq : acc.map (·.1) = G
  len : acc.length ≤ i
  below : Below B w wr
  size : M ≤ wr.heap.size
theorem own_not_str {w : World} {M n k : Nat} {v : Value} {xs : List Value} {c : Array Value} (h : w.ownsRow M 76 4 v n xs) (hk : w.heap[k]? = some (.cells c 9)) : v.ownBlock ≠ some k := by
  intro e
  rcases h.2 with ⟨hv, _⟩ | ⟨g, cap, cur, hv, _, hg, _⟩
  · rw [hv] at e; cases e
  · have hgk : g = k := by rw [hv] at e; exact Option.some.inj e
    rw [hgk, hk] at hg
    simp only [Option.some.injEq, Obj.cells.injEq] at hg
    exact absurd hg.2.1 (by decide)
theorem RowIn.push {w wr wp w2 : World} {B M i : Nat} {q : List (RSec × Value)} {v v2 : Value} {acc : List (RSec × Value)} {G G' : List RSec} {x : RSec × Value} (h : RowIn w B M q v acc G i wr) (hA : Below wr.heap.size wr wp) (hBM : B ≤ M)
    (hx : x ∈ q ∨ NewSec M wp x) (hown : w2.ownsRow M 76 4 v2 (acc.length + 1) (rowR (acc ++ [x]))) (hb : Below M wp w2) (hk : ∀ k, k < wp.heap.size → v.ownBlock ≠ some k → w2.heap[k]? = wp.heap[k]?) (hG : G' = G ++ [x.1]) :
    RowIn w B M q v2 (acc ++ [x]) G' (i + 1) w2 := by
  have hownp := owns_below h.own hA
  have keep : ∀ (b : Nat) (c : Array Value), wp.heap[b]? = some (Obj.cells c 9) → w2.heap[b]? = wp.heap[b]? := fun b c e => hk b (Array.getElem?_eq_some_iff.1 e).1 (own_not_str hownp e)
  refine ⟨by rw [List.length_append]; exact hown, fun y hy => ?_, by rw [hG, List.map_append, h.eq]; rfl, by have := h.len; simp; omega, h.below.trans ((hA.mono (Nat.le_trans hBM h.size)).trans (hb.mono hBM)), by have := h.size; have := hA.size; have := hb.size; omega⟩
  rcases List.mem_append.1 hy with hy | hy
  · rcases h.secs y hy with h1 | h1
    · exact .inl h1
    · exact .inr ((h1.keep (fun b c (e : wr.heap[b]? = some (Obj.cells c 9)) => hA.block b (Array.getElem?_eq_some_iff.1 e).1)).keep keep)
  · rw [List.mem_singleton.1 hy]
    rcases hx with h1 | h1
    · exact .inl h1
    · exact .inr (h1.keep keep)
theorem RowIn.done {w wr wf : World} {B M i : Nat} {q : List (RSec × Value)} {v v0 : Value} {acc : List (RSec × Value)} {G : List RSec} (h : RowIn w B M q v acc G i wr) (hq : RowIs w v0 q) (hi : i ≤ q.length) (hB : Below w.heap.size w wf) (hA : Above M wr wf) : RowIs wf v acc := by
  have hown := own_above h.own hA
  refine own_row hown (fun x hx => ?_) (by have := h.len; have := hq.len; omega)
  rcases h.secs x hx with h1 | h1
  · exact (hq.secs x h1).below hB
  · exact (NewSec.sec (by
      obtain ⟨b, V, e1, e2, e3, e4⟩ := h1
      exact ⟨b, V, e1, e2, by rw [hA.2 b e2 (Array.getElem?_eq_some_iff.1 e3).1]; exact e3, e4⟩) : SecIs wf x)
theorem RowIn.q {w wr : World} {B M i k : Nat} {q : List (RSec × Value)} {v v0 : Value} {acc : List (RSec × Value)} {G : List RSec} (h : RowIn w B M q v acc G i wr) (hk : Q v acc k) : Q v0 q k ∨ M ≤ k := by
  rcases hk with ⟨b, m, c, hv, rfl⟩ | ⟨y, hy, b, m, c, hv, rfl⟩
  · exact .inr (own_fresh h.own b m c hv)
  · rcases h.secs y hy with h1 | ⟨g, V, e1, e2, _, _⟩
    · exact .inl (.inr ⟨y, h1, b, m, c, hv, rfl⟩)
    · rw [e1] at hv
      simp only [Value.slice.injEq, Option.some.injEq] at hv
      rw [← hv.1]; exact .inr e2
def freeL (l : List RSec) (a : Int) : List RSec := l.filter fun s => decide (s.area ≠ a)
/-- what Free answers -/
inductive FreeR (r : RSt) (a : Int) : RSt → Int → Prop
  | dead : r.dead = true → FreeR r a r 30
  | dies : r.dead = false → diesR r = true → FreeR r a (stepR r) 30
  | good : r.dead = false → diesR r = false → FreeR r a { stepR r with room := r.room + ((r.l.length - (freeL r.l a).length : Nat) : Int), l := freeL r.l a } 0
set_option maxRecDepth 100000 in
set_option maxHeartbeats 8000000 in
theorem rfree_any (r : RSt) (v : Value) (q : List (RSec × Value)) (a : Int) (w : World) (h : RDisk w v r q) (hl : q.length < 2932031007390)
    (hs : 0 ≤ r.steps ∧ r.steps ≤ 4611686018427387904) (hleft : r.armed = true → 0 ≤ r.left) (hleft2 : r.left ≤ 9223372036854775807) (hroom : 0 ≤ r.room ∧ r.room + (q.length : Nat) ≤ 9223372036854775807) :
    Calls Try.prog 39 #[.agg (diskR r v), .int .u64 a] w (AnsR w v q (FreeR r a)) := by
  obtain ⟨av, cv, rfl⟩ := h.1.slice
  have HR := Lib.hid h
  obtain ⟨room, steps, left, armed, dead, rl⟩ := r
  dsimp only at hs hleft hleft2 hroom
  obtain ⟨B, hB⟩ : ∃ B, w.heap.size = B := ⟨_, rfl⟩
  cases dead
  · obtain ⟨W1, hW1⟩ : ∃ W1, ((w.alloc (.cells #[.int .i64 room, .int .i64 steps, .int .i64 left, .bool armed, .bool false, .slice av q.length cv] 40)).alloc (.cells #[.int .i64 0, .int .i64 0, .int .i64 0, .bool false, .bool false, .slice none 0 0] 40)) = W1 := ⟨_, rfl⟩
    have hb1 : Below w.heap.size w W1 := by rw [← hW1]; exact ((Below.refl _ _).alloc (Nat.le_refl _) _).alloc (by simp) _
    have hz1 : W1.heap.size = B + 2 := by rw [← hW1, ← hB]; simp
    have bA : Blk W1 B 40 #[.int .i64 room, .int .i64 steps, .int .i64 left, .bool armed, .bool false, .slice av q.length cv] := by
      rw [← hW1, ← hB]; exact (Blk.alloc_new _ _ _).below ((Below.refl _ _).alloc (Nat.le_refl _) _) (by simp)
    have bR : Blk W1 (B + 1) 40 #[.int .i64 0, .int .i64 0, .int .i64 0, .bool false, .bool false, .slice none 0 0] := by
      rw [← hW1, ← hB]; exact two_blk _ _ _ _
    have HB1 := Lib.hid (show Below B w W1 by rw [← hB]; exact hb1)
    have HZ1 := Lib.hid hz1
    have HBA := Lib.hid bA
    have HBR := Lib.hid bR
    have HW1 := Lib.hid hW1
    have hst := rstep_any ⟨room, steps, left, armed, false, rl⟩ av q.length cv W1 hs hleft hleft2
    obtain ⟨LF, hLF⟩ : ∃ LF, (stepR ⟨room, steps, left, armed, false, rl⟩).left = LF := ⟨_, rfl⟩
    obtain ⟨DE, hDE⟩ : ∃ DE, (stepR ⟨room, steps, left, armed, false, rl⟩).dead = DE := ⟨_, rfl⟩
    obtain ⟨DD, hDD⟩ : ∃ DD, diesR ⟨room, steps, left, armed, false, rl⟩ = DD := ⟨_, rfl⟩
    have hlit : ∀ v, diskR (stepR ⟨room, steps, left, armed, false, rl⟩) v = #[.int .i64 room, .int .i64 (steps + 1), .int .i64 LF, .bool armed, .bool DE, v] := fun v => by rw [← hLF, ← hDE]; rfl
    rw [hlit, hDD] at hst
    have HST := Lib.hid hst
    have HLF := Lib.hid hLF
    have HDE := Lib.hid hDE
    have HDD := Lib.hid hDD
    clear h hb1 hz1 bA bR hW1 hst hLF hDE hDD hlit
    unfold diskR
    dsimp only
    go_enter Try.func39, Try.ntmps39
    go_wp2_with fail
    try rw [hB]
    try rw [HW1.out]
    refine HST.out.mono ?_
    rintro e w8 ⟨rfl, hb8⟩
    have bA8 := HBA.out.below hb8 (by have := HZ1.out; omega)
    have bR8 := HBR.out.below hb8 (by have := HZ1.out; omega)
    have HB8 := Lib.hid (HB1.out.trans (hb8.mono (by have := HZ1.out; omega)))
    have hz8 : B + 2 ≤ w8.heap.size := by have := HZ1.out; have := hb8.size; omega
    obtain ⟨a0, a1, a2, a3, a4, a5⟩ := blk6 bA8
    obtain ⟨f0, f1, f2, f3, f4, f5⟩ := frees bA8
    obtain ⟨r0, r1, r2, r3, r4, r5⟩ := blk6 bR8
    obtain ⟨g0, g1, g2, g3, g4, g5⟩ := frees bR8
    clear hb8 HBA HBR HST
    cases DD
    · obtain ⟨W2, hW2⟩ : ∃ W2, six w8 B (.int .i64 room) (.int .i64 (steps + 1)) (.int .i64 LF) (.bool armed) (.bool DE) (.slice av q.length cv) = W2 := ⟨_, rfl⟩
      have bA9 : Blk W2 B 40 #[.int .i64 room, .int .i64 (steps + 1), .int .i64 LF, .bool armed, .bool DE, .slice av q.length cv] := by rw [← hW2]; exact six_blk bA8 _ _ _ _ _ _
      have bR9 : Blk W2 (B + 1) 40 #[.int .i64 0, .int .i64 0, .int .i64 0, .bool false, .bool false, .slice none 0 0] := by rw [← hW2]; exact six_other bR8 (by omega) _ _ _ _ _ _
      have hbW : Below B w W2 := by rw [← hW2]; exact six_below HB8.out (Nat.le_refl _) _ _ _ _ _ _
      obtain ⟨M, hM⟩ : ∃ M, W2.heap.size = M := ⟨_, rfl⟩
      have hBM : B + 2 ≤ M := by have := Blk.lt bR9; omega
      have hrel0 : RowIn w B M q (.slice none 0 0) [] (freeL ((q.take 0).map (·.1)) a) 0 W2 := ⟨World.ownsRow_nil _ _ _ _, fun x hx => (nomatch hx), rfl, Nat.le_refl _, hbW, by omega⟩
      have HW2 := Lib.hid hW2
      clear hW2 bA8 bR8 hbW hM
      go_wp2_with fail
      have hW2' := HW2.out
      unfold six at hW2'
      rw [hW2']
      clear hW2' HW2 a0 a1 a2 a3 a4 a5 f0 f1 f2 f3 f4 f5 r0 r1 r2 r3 r4 r5 g0 g1 g2 g3 g4 g5
      go_loopw [7, 8] (fun x7 x8 wr => ∃ (i : Nat) (v : Value) (acc : List (RSec × Value)), x7 = v ∧ x8 = .int .i64 i ∧ i ≤ q.length ∧ RowIn w B M q v acc (freeL ((q.take i).map (·.1)) a) i wr ∧ Blk wr B 40 #[.int .i64 (room + ((i - acc.length : Nat) : Int)), .int .i64 (steps + 1), .int .i64 LF, .bool armed, .bool DE, .slice av q.length cv] ∧ Blk wr (B + 1) 40 #[.int .i64 0, .int .i64 0, .int .i64 0, .bool false, .bool false, .slice none 0 0]) (fun _ x8 _ => q.length - (intOf x8).toNat)
      case atStart => exact ⟨0, _, [], rfl, rfl, Nat.zero_le _, hrel0, by simpa using bA9, bR9⟩
      case round =>
        clear hrel0 bA9 bR9
        obtain ⟨i, v, acc, rfl, rfl, hi, hP, bA, bR⟩ := hrel
        obtain ⟨a0, a1, a2, a3, a4, a5⟩ := blk6 bA
        obtain ⟨f0, f1, f2, f3, f4, f5⟩ := frees bA
        have hsz := hP.size
        have hlen := hP.len
        have hqq := HR.out.1.len
        by_cases hlt : (i : Int) < (q.length : Int)
        · obtain ⟨x, hx⟩ : ∃ x, q[i]? = some x := ⟨_, List.getElem?_eq_getElem (by omega)⟩
          have hrow : RowIs wr (.slice av q.length cv) q := HR.out.1.below (by rw [hB]; exact hP.below)
          obtain ⟨g, rfl, hg, k0, k1, k2, k3⟩ := hrow.at_ hx
          obtain ⟨⟨_, xa, xc, hxu, _⟩, _⟩ := hrow.secs x (List.mem_of_getElem? hx)
          rw [hxu] at k2
          obtain ⟨X, hX⟩ : ∃ X, x.1.area = X := ⟨_, rfl⟩
          obtain ⟨Y, hY⟩ : ∃ Y, x.1.n = Y := ⟨_, rfl⟩
          obtain ⟨Z, hZ⟩ : ∃ Z, x.1.sync = Z := ⟨_, rfl⟩
          obtain ⟨xn, hxn⟩ : ∃ xn, x.1.L.length = xn := ⟨_, rfl⟩
          have hsr : secR x.1 x.2 = #[.int .u64 X, .int .i64 Y, .slice xa xn xc, .bool Z] := by rw [← hX, ← hY, ← hZ, ← hxn, ← hxu]; rfl
          rw [hX] at k0
          rw [hY] at k1
          rw [hxn] at k2
          rw [hZ] at k3
          have htake : (q.take (i + 1)).map (·.1) = (q.take i).map (·.1) ++ [x.1] := by rw [List.take_add_one, hx]; simp
          have hinext : IntKind.i64.wrap ((i : Int) + 1) = ((i + 1 : Nat) : Int) := IntWalk.i64_in _ (by omega)
          have i0 : (0 : Int) ≤ (i : Int) := by omega
          have hown := hP.own
          have HX := Lib.hid hx
          have HXA := Lib.hid hX
          have HYN := Lib.hid hY
          have HP := Lib.hid hP
          have HSR := Lib.hid hsr
          have HXU := Lib.hid hxu
          have HT := Lib.hid htake
          have HBA := Lib.hid bA
          have HBR := Lib.hid bR
          clear hx hX hY hZ hxn hP hsr hxu htake hrow bA bR
          by_cases ha : X = a
          · have hGe : freeL ((q.take (i + 1)).map (·.1)) a = freeL ((q.take i).map (·.1)) a := by rw [HT.out]; unfold freeL; rw [List.filter_append]; simp [HXA.out, ha]
            have HGE := Lib.hid hGe
            obtain ⟨rm, hrm⟩ : ∃ rm, room + ((i - acc.length : Nat) : Int) = rm := ⟨_, rfl⟩
            rw [hrm] at a0
            have w1 : wrap64 (rm + 1) = rm + 1 := IntWalk.wrap64_in _ (by omega)
            have w2 : IntKind.i64.wrap (rm + 1) = rm + 1 := IntWalk.i64_in _ (by omega)
            have HRM := Lib.hid hrm
            subst ha
            clear hGe hrm
            go_wp2_with fail
            refine ⟨⟨i + 1, _, acc, rfl, ?_, by omega, ?_, ?_, ?_⟩, ?_⟩
            · first | rfl | congr 1
            · rw [HGE.out]
              exact ⟨ownsRow_setCell_below HP.out.own (a := ⟨B, 0, none⟩) (by show B < M; omega) _, fun y hy => by
                rcases HP.out.secs y hy with h | h
                · exact .inl h
                · obtain ⟨b, V, e1, e2, e3, e4⟩ := h
                  exact .inr ⟨b, V, e1, e2, by rw [Below.heap_setCell _ _ _ _ (by show b ≠ B; omega)]; exact e3, e4⟩, HP.out.eq, by omega, HP.out.below.setCell (p := ⟨B, 0, none⟩) (Nat.le_refl _) _, by rw [World.size_setCell]; exact hsz⟩
            · have e : rm + 1 = room + ((i + 1 - acc.length : Nat) : Int) := by have := HRM.out; omega
              have h2 := HBA.out.set 0 (.int .i64 (rm + 1))
              rw [← e]; exact h2
            · exact blk_other HBR.out (by omega) _
            · simp [intOf]; omega
          · have hGe : freeL ((q.take (i + 1)).map (·.1)) a = freeL ((q.take i).map (·.1)) a ++ [x.1] := by rw [HT.out]; unfold freeL; rw [List.filter_append]; simp [HXA.out, ha]
            have HGE := Lib.hid hGe
            clear hGe
            go_wp2_with (at_builtin; refine wpList_pushS _ (by rfl) _ _ rfl M _ acc rfl (hown.alloc _) wr.heap.size 76 x rfl (by rw [HSR.out]; exact Blk.alloc_new _ _ _) (by rw [HXU.out]; rfl) (by omega) (by simp; omega) ?_; intro v2 w2 hown2 hb2 hk2)
            have hlo : Below M wr w2 := ((Below.refl M wr).alloc hsz _).trans hb2
            refine ⟨⟨i + 1, v2, acc ++ [x], rfl, ?_, by omega, ?_, ?_, ?_⟩, ?_⟩
            · first | rfl | congr 1
            · exact HP.out.push ((Below.refl _ _).alloc (Nat.le_refl _) _) (by omega) (.inl (List.mem_of_getElem? HX.out)) hown2 hb2 hk2 HGE.out
            · have e : i + 1 - (acc ++ [x]).length = i - acc.length := by rw [List.length_append]; simp only [List.length_singleton]; omega
              rw [e]; exact HBA.out.below hlo (by omega)
            · exact HBR.out.below hlo (by omega)
            · simp [intOf]; omega
        · have hie : i = q.length := by omega
          subst hie
          obtain ⟨rm, hrm⟩ : ∃ rm, room + ((q.length - acc.length : Nat) : Int) = rm := ⟨_, rfl⟩
          rw [hrm] at a0 bA
          obtain ⟨a7, c7, hv7⟩ := own_shape hP.own
          obtain ⟨n7, hn7⟩ : ∃ n7, acc.length = n7 := ⟨_, rfl⟩
          rw [hn7] at hv7
          subst hv7
          have HP := Lib.hid hP
          have HRM := Lib.hid hrm
          have HN7 := Lib.hid hn7
          obtain ⟨r0, r1, r2, r3, r4, r5⟩ := blk6 bR
          obtain ⟨g0, g1, g2, g3, g4, g5⟩ := frees bR
          clear hP hrm hn7
          go_wp2_with fail
          refine bodyPost_ret (results_cellT rfl _ _ (B + 1) rfl _ rfl _ #[.int .i64 rm, .int .i64 (steps + 1), .int .i64 LF, .bool armed, .bool DE, .slice a7 n7 c7] (six_blk (blk_other bR (b := B) (by omega) _) _ _ _ _ _ _) _ Try.underlying40 rfl size_disk) rfl ?_
          have hbf := six_below (HP.out.below.setCell (p := ⟨B, 5, none⟩) (Nat.le_refl _) (.slice a7 n7 c7)) (b := B + 1) (by omega) (.int .i64 rm) (.int .i64 (steps + 1)) (.int .i64 LF) (.bool armed) (.bool DE) (.slice a7 n7 c7)
          have hAb := (Above.set (M := M) (w := wr) (p := ⟨B, 5, none⟩) (by show B < M; omega) (.slice a7 n7 c7)).trans (Above.six _ (b := B + 1) (by omega) (.int .i64 rm) (.int .i64 (steps + 1)) (.int .i64 LF) (.bool armed) (.bool DE) (.slice a7 n7 c7))
          have heq := HP.out.eq
          rw [List.take_length] at heq
          have hqr : q.map (·.1) = rl := HR.out.2
          have hcnt : rm = room + ((rl.length - (freeL rl a).length : Nat) : Int) := by rw [← hqr, ← heq, List.length_map, List.length_map, HRM.out]
          refine ⟨.slice a7 n7 c7, acc, { stepR ⟨room, steps, left, armed, false, rl⟩ with room := room + ((rl.length - (freeL rl a).length : Nat) : Int), l := freeL rl a }, 0, ?_, FreeR.good rfl HDD.out, ⟨HP.out.done HR.out.1 (Nat.le_refl _) (by rw [hB]; exact hbf) hAb, ?_⟩, fun k hk => (HP.out.q hk).imp id (fun h => by omega), by rw [hB]; exact hbf⟩
          · have e : diskR { stepR ⟨room, steps, left, armed, false, rl⟩ with room := room + ((rl.length - (freeL rl a).length : Nat) : Int), l := freeL rl a } (.slice a7 n7 c7) = #[.int .i64 rm, .int .i64 (steps + 1), .int .i64 LF, .bool armed, .bool DE, .slice a7 n7 c7] := by rw [← HLF.out, ← HDE.out, hcnt]; rfl
            first | (rw [e]; done) | (rw [e]; rfl)
          · rw [heq, hqr]
    · go_wp2_with fail
      refine bodyPost_ret (results_cellT rfl _ _ (B + 1) rfl _ rfl _ #[.int .i64 room, .int .i64 (steps + 1), .int .i64 LF, .bool armed, .bool DE, .slice av q.length cv] (six_blk (six_other bR8 (b := B) (by omega) _ _ _ _ _ _) _ _ _ _ _ _) _ Try.underlying40 rfl size_disk) rfl ?_
      have hB2 := six_below (six_below HB8.out (b := B) (Nat.le_refl _) (.int .i64 room) (.int .i64 (steps + 1)) (.int .i64 LF) (.bool armed) (.bool DE) (.slice av q.length cv)) (b := B + 1) (by omega) (.int .i64 room) (.int .i64 (steps + 1)) (.int .i64 LF) (.bool armed) (.bool DE) (.slice av q.length cv)
      refine ⟨.slice av q.length cv, q, stepR ⟨room, steps, left, armed, false, rl⟩, 30, ?_, FreeR.dies rfl HDD.out, ⟨HR.out.1.below (by rw [hB]; exact hB2), HR.out.2⟩, fun k hk => .inl hk, by rw [hB]; exact hB2⟩
      have e : diskR (stepR ⟨room, steps, left, armed, false, rl⟩) (.slice av q.length cv) = #[.int .i64 room, .int .i64 (steps + 1), .int .i64 LF, .bool armed, .bool DE, .slice av q.length cv] := by rw [← HLF.out, ← HDE.out]; rfl
      first | (rw [e]; done) | (rw [e]; rfl)
  · have HW := Lib.hid (FreeR.dead (r := ⟨room, steps, left, armed, true, rl⟩) (a := a) rfl)
    unfold diskR
    dsimp only
    clear h
    go_enter Try.func39, Try.ntmps39
    go_wp2_with fail
    refine bodyPost_ret (results_cellT rfl _ _ (B + 1) rfl _ rfl _ #[.int .i64 room, .int .i64 steps, .int .i64 left, .bool armed, .bool true, .slice av q.length cv] (by rw [← hB]; exact two_blk _ _ _ _) _ Try.underlying40 rfl size_disk) rfl ?_
    exact ⟨_, q, _, _, rfl, HW.out, ⟨HR.out.1.below (two_under _ _ _), HR.out.2⟩, fun k hk => .inl hk, two_under _ _ _⟩
end Go.Proofs.Yteidmneenfdafaa.R
namespace Go.Proofs.Yteidmneenfdafaa.R
open Go.RowKit
open Aid K
set_option linter.unusedSimpArgs false
set_option linter.unusedVariables false

theorem own_keep {w w' : World} {base : Nat} {e : TypeId} {size n : Nat} {v : Value} {xs : List Value} (h : w.ownsRow base e size v n xs) (hk : ∀ g, g < w.heap.size → v.ownBlock = some g → w'.heap[g]? = w.heap[g]?) : w'.ownsRow base e size v n xs := by
  obtain ⟨h1, h2⟩ := h
  refine ⟨h1, ?_⟩
  rcases h2 with h2 | ⟨g, cap, cur, hv, hb, hg, r⟩
  · exact .inl h2
  · refine .inr ⟨g, cap, cur, hv, hb, ?_, r⟩
    rw [hk g (Array.getElem?_eq_some_iff.1 hg).1 (by rw [hv]; rfl)]; exact hg
theorem four_heap {w : World} {b k : Nat} (x0 x1 x2 x3 : Value) (hk : k ≠ b) : (four w b x0 x1 x2 x3).heap[k]? = w.heap[k]? := by
  unfold four
  rw [Below.heap_setCell _ _ _ _ hk, Below.heap_setCell _ _ _ _ hk, Below.heap_setCell _ _ _ _ hk, Below.heap_setCell _ _ _ _ hk]
theorem four_size {w : World} {b : Nat} (x0 x1 x2 x3 : Value) : (four w b x0 x1 x2 x3).heap.size = w.heap.size := by unfold four; simp only [World.size_setCell]
def syncX (a : Int) (s : RSec) : RSec := if s.area = a then ⟨a, s.n, [s.L.getLastD ByteArray.empty], true⟩ else s
def syncL (l : List RSec) (a : Int) : List RSec := l.map (syncX a)
/-- what Sync answers -/
inductive SyncR (r : RSt) (a : Int) : RSt → Int → Prop
  | dead : r.dead = true → SyncR r a r 30
  | dies : r.dead = false → diesR r = true → SyncR r a (stepR r) 30
  | good : r.dead = false → diesR r = false → SyncR r a { stepR r with l := syncL r.l a } 0
set_option maxRecDepth 100000 in
set_option maxHeartbeats 8000000 in
theorem rsync_any (r : RSt) (v : Value) (q : List (RSec × Value)) (a : Int) (w : World) (h : RDisk w v r q) (hl : q.length < 2932031007390)
    (hs : 0 ≤ r.steps ∧ r.steps ≤ 4611686018427387904) (hleft : r.armed = true → 0 ≤ r.left) (hleft2 : r.left ≤ 9223372036854775807) (hroom : 0 ≤ r.room ∧ r.room + (q.length : Nat) ≤ 9223372036854775807) :
    Calls Try.prog 38 #[.agg (diskR r v), .int .u64 a] w (AnsR w v q (SyncR r a)) := by
  obtain ⟨av, cv, rfl⟩ := h.1.slice
  have HR := Lib.hid h
  obtain ⟨room, steps, left, armed, dead, rl⟩ := r
  dsimp only at hs hleft hleft2 hroom
  obtain ⟨B, hB⟩ : ∃ B, w.heap.size = B := ⟨_, rfl⟩
  cases dead
  · obtain ⟨W1, hW1⟩ : ∃ W1, ((w.alloc (.cells #[.int .i64 room, .int .i64 steps, .int .i64 left, .bool armed, .bool false, .slice av q.length cv] 40)).alloc (.cells #[.int .i64 0, .int .i64 0, .int .i64 0, .bool false, .bool false, .slice none 0 0] 40)) = W1 := ⟨_, rfl⟩
    have hb1 : Below w.heap.size w W1 := by rw [← hW1]; exact ((Below.refl _ _).alloc (Nat.le_refl _) _).alloc (by simp) _
    have hz1 : W1.heap.size = B + 2 := by rw [← hW1, ← hB]; simp
    have bA : Blk W1 B 40 #[.int .i64 room, .int .i64 steps, .int .i64 left, .bool armed, .bool false, .slice av q.length cv] := by
      rw [← hW1, ← hB]; exact (Blk.alloc_new _ _ _).below ((Below.refl _ _).alloc (Nat.le_refl _) _) (by simp)
    have bR : Blk W1 (B + 1) 40 #[.int .i64 0, .int .i64 0, .int .i64 0, .bool false, .bool false, .slice none 0 0] := by
      rw [← hW1, ← hB]; exact two_blk _ _ _ _
    have HB1 := Lib.hid (show Below B w W1 by rw [← hB]; exact hb1)
    have HZ1 := Lib.hid hz1
    have HBA := Lib.hid bA
    have HBR := Lib.hid bR
    have HW1 := Lib.hid hW1
    have hst := rstep_any ⟨room, steps, left, armed, false, rl⟩ av q.length cv W1 hs hleft hleft2
    obtain ⟨LF, hLF⟩ : ∃ LF, (stepR ⟨room, steps, left, armed, false, rl⟩).left = LF := ⟨_, rfl⟩
    obtain ⟨DE, hDE⟩ : ∃ DE, (stepR ⟨room, steps, left, armed, false, rl⟩).dead = DE := ⟨_, rfl⟩
    obtain ⟨DD, hDD⟩ : ∃ DD, diesR ⟨room, steps, left, armed, false, rl⟩ = DD := ⟨_, rfl⟩
    have hlit : ∀ v, diskR (stepR ⟨room, steps, left, armed, false, rl⟩) v = #[.int .i64 room, .int .i64 (steps + 1), .int .i64 LF, .bool armed, .bool DE, v] := fun v => by rw [← hLF, ← hDE]; rfl
    rw [hlit, hDD] at hst
    have HST := Lib.hid hst
    have HLF := Lib.hid hLF
    have HDE := Lib.hid hDE
    have HDD := Lib.hid hDD
    clear h hb1 hz1 bA bR hW1 hst hLF hDE hDD hlit
    unfold diskR
    dsimp only
    go_enter Try.func38, Try.ntmps38
    go_wp2_with fail
    try rw [hB]
    try rw [HW1.out]
    refine HST.out.mono ?_
    rintro e w8 ⟨rfl, hb8⟩
    have bA8 := HBA.out.below hb8 (by have := HZ1.out; omega)
    have bR8 := HBR.out.below hb8 (by have := HZ1.out; omega)
    have HB8 := Lib.hid (HB1.out.trans (hb8.mono (by have := HZ1.out; omega)))
    have hz8 : B + 2 ≤ w8.heap.size := by have := HZ1.out; have := hb8.size; omega
    obtain ⟨a0, a1, a2, a3, a4, a5⟩ := blk6 bA8
    obtain ⟨f0, f1, f2, f3, f4, f5⟩ := frees bA8
    obtain ⟨r0, r1, r2, r3, r4, r5⟩ := blk6 bR8
    obtain ⟨g0, g1, g2, g3, g4, g5⟩ := frees bR8
    clear hb8 HBA HBR HST
    cases DD
    · obtain ⟨W2, hW2⟩ : ∃ W2, six w8 B (.int .i64 room) (.int .i64 (steps + 1)) (.int .i64 LF) (.bool armed) (.bool DE) (.slice av q.length cv) = W2 := ⟨_, rfl⟩
      have bA9 : Blk W2 B 40 #[.int .i64 room, .int .i64 (steps + 1), .int .i64 LF, .bool armed, .bool DE, .slice av q.length cv] := by rw [← hW2]; exact six_blk bA8 _ _ _ _ _ _
      have bR9 : Blk W2 (B + 1) 40 #[.int .i64 0, .int .i64 0, .int .i64 0, .bool false, .bool false, .slice none 0 0] := by rw [← hW2]; exact six_other bR8 (by omega) _ _ _ _ _ _
      have hbW : Below B w W2 := by rw [← hW2]; exact six_below HB8.out (Nat.le_refl _) _ _ _ _ _ _
      obtain ⟨M, hM⟩ : ∃ M, W2.heap.size = M := ⟨_, rfl⟩
      have hBM : B + 2 ≤ M := by have := Blk.lt bR9; omega
      have hrel0 : RowIn w B M q (.slice none 0 0) [] (syncL ((q.take 0).map (·.1)) a) 0 W2 := ⟨World.ownsRow_nil _ _ _ _, fun x hx => (nomatch hx), rfl, Nat.le_refl _, hbW, by omega⟩
      have HW2 := Lib.hid hW2
      clear hW2 bA8 bR8 hbW hM
      go_wp2_with fail
      have hW2' := HW2.out
      unfold six at hW2'
      rw [hW2']
      clear hW2' HW2 a0 a1 a2 a3 a4 a5 f0 f1 f2 f3 f4 f5 r0 r1 r2 r3 r4 r5 g0 g1 g2 g3 g4 g5
      go_loopw [7, 8] (fun x7 x8 wr => ∃ (i : Nat) (v : Value) (acc : List (RSec × Value)), x7 = v ∧ x8 = .int .i64 i ∧ i ≤ q.length ∧ RowIn w B M q v acc (syncL ((q.take i).map (·.1)) a) i wr ∧ Blk wr B 40 #[.int .i64 room, .int .i64 (steps + 1), .int .i64 LF, .bool armed, .bool DE, .slice av q.length cv] ∧ Blk wr (B + 1) 40 #[.int .i64 0, .int .i64 0, .int .i64 0, .bool false, .bool false, .slice none 0 0]) (fun _ x8 _ => q.length - (intOf x8).toNat)
      case atStart => exact ⟨0, _, [], rfl, rfl, Nat.zero_le _, hrel0, bA9, bR9⟩
      case round =>
        clear hrel0 bA9 bR9
        obtain ⟨i, v, acc, rfl, rfl, hi, hP, bA, bR⟩ := hrel
        obtain ⟨a0, a1, a2, a3, a4, a5⟩ := blk6 bA
        obtain ⟨f0, f1, f2, f3, f4, f5⟩ := frees bA
        have hsz := hP.size
        have hlen := hP.len
        have hqq := HR.out.1.len
        by_cases hlt : (i : Int) < (q.length : Int)
        · obtain ⟨x, hx⟩ : ∃ x, q[i]? = some x := ⟨_, List.getElem?_eq_getElem (by omega)⟩
          have hrow : RowIs wr (.slice av q.length cv) q := HR.out.1.below (by rw [hB]; exact hP.below)
          obtain ⟨g, rfl, hg, k0, k1, k2, k3⟩ := hrow.at_ hx
          obtain ⟨⟨_, xa, xc, hxu, _⟩, _⟩ := hrow.secs x (List.mem_of_getElem? hx)
          rw [hxu] at k2
          obtain ⟨X, hX⟩ : ∃ X, x.1.area = X := ⟨_, rfl⟩
          obtain ⟨Y, hY⟩ : ∃ Y, x.1.n = Y := ⟨_, rfl⟩
          obtain ⟨Z, hZ⟩ : ∃ Z, x.1.sync = Z := ⟨_, rfl⟩
          obtain ⟨xn, hxn⟩ : ∃ xn, x.1.L.length = xn := ⟨_, rfl⟩
          have hsr : secR x.1 x.2 = #[.int .u64 X, .int .i64 Y, .slice xa xn xc, .bool Z] := by rw [← hX, ← hY, ← hZ, ← hxn, ← hxu]; rfl
          rw [hX] at k0
          rw [hY] at k1
          rw [hxn] at k2
          rw [hZ] at k3
          have htake : (q.take (i + 1)).map (·.1) = (q.take i).map (·.1) ++ [x.1] := by rw [List.take_add_one, hx]; simp
          have hinext : IntKind.i64.wrap ((i : Int) + 1) = ((i + 1 : Nat) : Int) := IntWalk.i64_in _ (by omega)
          have i0 : (0 : Int) ≤ (i : Int) := by omega
          have hown := hP.own
          have HX := Lib.hid hx
          have HXA := Lib.hid hX
          have HYN := Lib.hid hY
          have HP := Lib.hid hP
          have HSR := Lib.hid hsr
          have HXU := Lib.hid hxu
          have HT := Lib.hid htake
          have HBA := Lib.hid bA
          have HBR := Lib.hid bR
          clear hx hX hY hZ hxn hP hsr hxu htake hrow bA bR
          have HSECX := Lib.hid (HR.out.1.secs x (List.mem_of_getElem? HX.out) |>.below (by rw [hB]; exact HP.out.below))
          by_cases ha : X = a
          · obtain ⟨V, hV⟩ : ∃ V, x.1.L.getLastD ByteArray.empty = V := ⟨_, rfl⟩
            have HV := Lib.hid hV
            clear hV
            have hlast : ∀ W, SecIs W x → Calls Try.prog 36 #[.agg #[.int .u64 X, .int .i64 Y, .slice xa xn xc, .bool Z]] W fun e w' => e = .returned (.string V) ∧ Below W.heap.size W w' := fun W hW => by
              have e := rlast_any x.1 x.2 W hW
              rw [HSR.out, HV.out] at e
              exact e
            have HLAST := Lib.hid hlast
            have hsecx : SecIs (wr.alloc (.cells #[.int .u64 X, .int .i64 Y, .slice xa xn xc, .bool Z] 76)).drew x := (HSECX.out).below (((Below.refl _ _).alloc (Nat.le_refl _) _).drew)
            have HSX := Lib.hid hsecx
            subst ha
            clear hsecx hlast
            go_wp2_with fail
            go_region_with (go_at_call 36; refine (HLAST.out _ HSX.out).mono ?_; rintro e w5 ⟨rfl, hb5⟩; have bt5 : Blk w5 wr.heap.size 76 #[.int .u64 X, .int .i64 Y, .slice xa xn xc, .bool Z] := Blk.below (show Blk (wr.alloc (.cells #[.int .u64 X, .int .i64 Y, .slice xa xn xc, .bool Z] 76)).drew wr.heap.size _ _ from Blk.alloc_new _ _ _) hb5 (by simp); obtain ⟨t0, t1, t2, t3⟩ := blk4 bt5; obtain ⟨y0, y1, y2, y3, _, _⟩ := frees bt5; have bt6 := Blk.below bt5 ((Below.refl w5.heap.size w5).alloc (Nat.le_refl _) (.cells #[.string V] 9)) (Blk.lt bt5); obtain ⟨p0, p1, p2, p3⟩ := blk4 bt6; obtain ⟨q0, q1, q2, q3, _, _⟩ := frees bt6)
            all_goals (
              obtain ⟨w6, hw6⟩ : ∃ w6, four (w5.alloc (.cells #[.string V] 9)) wr.heap.size (.int .u64 X) (.int .i64 Y) (.slice (some ⟨w5.heap.size, 0, none⟩) 1 1) (.bool true) = w6 := ⟨_, rfl⟩
              have b6 : Blk w6 wr.heap.size 76 #[.int .u64 X, .int .i64 Y, .slice (some ⟨w5.heap.size, 0, none⟩) 1 1, .bool true] := by rw [← hw6]; exact four_blk bt6 _ _ _ _
              have hz5 : wr.heap.size < w5.heap.size := Blk.lt bt5
              have hlo5 : Below wr.heap.size wr w5 := (((Below.refl wr.heap.size wr).alloc (Nat.le_refl _) (.cells #[.int .u64 X, .int .i64 Y, .slice xa xn xc, .bool Z] 76)).drew).trans (hb5.mono (by simp))
              have hlo6 : Below wr.heap.size wr w6 := by rw [← hw6]; exact four_below (hlo5.alloc (by omega) _) (Nat.le_refl _) _ _ _ _
              have hz6 : w5.heap.size < w6.heap.size := by rw [← hw6, four_size]; simp
              have hn6 : w6.heap[w5.heap.size]? = some (Obj.cells #[.string V] 9) := by
                rw [← hw6, four_heap _ _ _ _ (by omega)]
                exact heap_alloc_new w5 _
              have hown6 := owns_below hown hlo6
              have hw6' := hw6
              unfold four at hw6'
              rw [hw6']
              obtain ⟨x', hx'⟩ : ∃ x' : RSec × Value, (⟨X, Y, [V], true⟩, .slice (some ⟨w5.heap.size, 0, none⟩) 1 1) = x' := ⟨_, rfl⟩
              have hnew : NewSec M (w6.alloc (.cells (secR x'.1 x'.2) 76)) x' := by
                rw [← hx']
                refine ⟨w5.heap.size, V, rfl, by omega, ?_, rfl⟩
                rw [Below.heap_alloc _ _ _ (by omega)]; exact hn6
              have hsr' : secR x'.1 x'.2 = #[.int .u64 X, .int .i64 Y, .slice (some ⟨w5.heap.size, 0, none⟩) 1 1, .bool true] := by rw [← hx']; rfl
              have hxu' : x'.2.oneCell' = true := by rw [← hx']; rfl
              rw [hsr'] at hnew
              obtain ⟨t0, t1, t2, t3⟩ := blk4 b6
              have HX' := Lib.hid hx'
              have HSR' := Lib.hid hsr'
              have HNEW := Lib.hid hnew
              have HLO6 := Lib.hid hlo6
              clear hw6 hw6' bt5 bt6 hb5 hlo5 hn6 hx' hsr' hnew hlo6 p0 p1 p2 p3 q0 q1 q2 q3 y0 y1 y2 y3
              go_wp2_with (at_builtin; refine wpList_pushS _ (by rfl) _ _ rfl M _ acc rfl (hown6.alloc _) w6.heap.size 76 x' rfl (by rw [HSR'.out]; exact Blk.alloc_new _ _ _) hxu' (by omega) (by simp; omega) ?_; intro v2 w2 hown2 hb2 hk2)
              have hlo : Below M wr w2 := ((HLO6.out.mono hsz).alloc (by omega) _).trans hb2
              have hsx : syncX X x.1 = x'.1 := by unfold syncX; rw [if_pos HXA.out, HYN.out, HV.out, ← HX'.out]
              refine ⟨⟨i + 1, v2, acc ++ [x'], rfl, ?_, by omega, ?_, ?_, ?_⟩, ?_⟩
              · first | rfl | congr 1
              · exact HP.out.push (HLO6.out.alloc (by omega) _) (by omega) (.inr HNEW.out) hown2 hb2 hk2 (by rw [HT.out]; unfold syncL; rw [List.map_append, List.map_singleton, hsx])
              · exact HBA.out.below hlo (by omega)
              · exact HBR.out.below hlo (by omega)
              · simp [intOf]; omega)
          · go_wp2_with (at_builtin; refine wpList_pushS _ (by rfl) _ _ rfl M _ acc rfl ((hown.alloc _).alloc _) (wr.heap.size + 1) 76 x rfl (by rw [HSR.out]; exact two_blk wr _ _ _) (by rw [HXU.out]; rfl) (by omega) (by simp; omega) ?_; intro v2 w2 hown2 hb2 hk2)
            have hlo : Below M wr w2 := (((Below.refl M wr).alloc hsz _).alloc (by simp; omega) _).trans hb2
            refine ⟨⟨i + 1, v2, acc ++ [x], rfl, ?_, by omega, ?_, ?_, ?_⟩, ?_⟩
            · first | rfl | congr 1
            · exact HP.out.push (((Below.refl _ _).alloc (Nat.le_refl _) _).alloc (by simp) _) (by omega) (.inl (List.mem_of_getElem? HX.out)) hown2 hb2 hk2 (by rw [HT.out]; unfold syncL; rw [List.map_append]; simp [syncX, HXA.out, ha])
            · exact HBA.out.below hlo (by omega)
            · exact HBR.out.below hlo (by omega)
            · simp [intOf]; omega
        · have hie : i = q.length := by omega
          subst hie
          obtain ⟨a7, c7, hv7⟩ := own_shape hP.own
          obtain ⟨n7, hn7⟩ : ∃ n7, acc.length = n7 := ⟨_, rfl⟩
          rw [hn7] at hv7
          subst hv7
          have HP := Lib.hid hP
          have HN7 := Lib.hid hn7
          obtain ⟨r0, r1, r2, r3, r4, r5⟩ := blk6 bR
          obtain ⟨g0, g1, g2, g3, g4, g5⟩ := frees bR
          clear hP hn7
          go_wp2_with fail
          refine bodyPost_ret (results_cellT rfl _ _ (B + 1) rfl _ rfl _ #[.int .i64 room, .int .i64 (steps + 1), .int .i64 LF, .bool armed, .bool DE, .slice a7 n7 c7] (six_blk (blk_other bR (b := B) (by omega) _) _ _ _ _ _ _) _ Try.underlying40 rfl size_disk) rfl ?_
          have hbf := six_below (HP.out.below.setCell (p := ⟨B, 5, none⟩) (Nat.le_refl _) (.slice a7 n7 c7)) (b := B + 1) (by omega) (.int .i64 room) (.int .i64 (steps + 1)) (.int .i64 LF) (.bool armed) (.bool DE) (.slice a7 n7 c7)
          have hAb := (Above.set (M := M) (w := wr) (p := ⟨B, 5, none⟩) (by show B < M; omega) (.slice a7 n7 c7)).trans (Above.six _ (b := B + 1) (by omega) (.int .i64 room) (.int .i64 (steps + 1)) (.int .i64 LF) (.bool armed) (.bool DE) (.slice a7 n7 c7))
          have heq := HP.out.eq
          rw [List.take_length] at heq
          have hqr : q.map (·.1) = rl := HR.out.2
          refine ⟨.slice a7 n7 c7, acc, { stepR ⟨room, steps, left, armed, false, rl⟩ with l := syncL rl a }, 0, ?_, SyncR.good rfl HDD.out, ⟨HP.out.done HR.out.1 (Nat.le_refl _) (by rw [hB]; exact hbf) hAb, ?_⟩, fun k hk => (HP.out.q hk).imp id (fun h => by omega), by rw [hB]; exact hbf⟩
          · have e : diskR { stepR ⟨room, steps, left, armed, false, rl⟩ with l := syncL rl a } (.slice a7 n7 c7) = #[.int .i64 room, .int .i64 (steps + 1), .int .i64 LF, .bool armed, .bool DE, .slice a7 n7 c7] := by rw [← HLF.out, ← HDE.out]; rfl
            first | (rw [e]; done) | (rw [e]; rfl)
          · rw [heq, hqr]
    · go_wp2_with fail
      refine bodyPost_ret (results_cellT rfl _ _ (B + 1) rfl _ rfl _ #[.int .i64 room, .int .i64 (steps + 1), .int .i64 LF, .bool armed, .bool DE, .slice av q.length cv] (six_blk (six_other bR8 (b := B) (by omega) _ _ _ _ _ _) _ _ _ _ _ _) _ Try.underlying40 rfl size_disk) rfl ?_
      have hB2 := six_below (six_below HB8.out (b := B) (Nat.le_refl _) (.int .i64 room) (.int .i64 (steps + 1)) (.int .i64 LF) (.bool armed) (.bool DE) (.slice av q.length cv)) (b := B + 1) (by omega) (.int .i64 room) (.int .i64 (steps + 1)) (.int .i64 LF) (.bool armed) (.bool DE) (.slice av q.length cv)
      refine ⟨.slice av q.length cv, q, stepR ⟨room, steps, left, armed, false, rl⟩, 30, ?_, SyncR.dies rfl HDD.out, ⟨HR.out.1.below (by rw [hB]; exact hB2), HR.out.2⟩, fun k hk => .inl hk, by rw [hB]; exact hB2⟩
      have e : diskR (stepR ⟨room, steps, left, armed, false, rl⟩) (.slice av q.length cv) = #[.int .i64 room, .int .i64 (steps + 1), .int .i64 LF, .bool armed, .bool DE, .slice av q.length cv] := by rw [← HLF.out, ← HDE.out]; rfl
      first | (rw [e]; done) | (rw [e]; rfl)
  · have HW := Lib.hid (SyncR.dead (r := ⟨room, steps, left, armed, true, rl⟩) (a := a) rfl)
    unfold diskR
    dsimp only
    clear h
    go_enter Try.func38, Try.ntmps38
    go_wp2_with fail
    refine bodyPost_ret (results_cellT rfl _ _ (B + 1) rfl _ rfl _ #[.int .i64 room, .int .i64 steps, .int .i64 left, .bool armed, .bool true, .slice av q.length cv] (by rw [← hB]; exact two_blk _ _ _ _) _ Try.underlying40 rfl size_disk) rfl ?_
    exact ⟨_, q, _, _, rfl, HW.out, ⟨HR.out.1.below (two_under _ _ _), HR.out.2⟩, fun k hk => .inl hk, two_under _ _ _⟩
end Go.Proofs.Yteidmneenfdafaa.R
namespace Go.Proofs.Yteidmneenfdafaa.R
open Go.RowKit
open Aid K
set_option linter.unusedSimpArgs false
set_option linter.unusedVariables false

/-- a row lies in no block that holds a disk -/
theorem RowIs.turn {w w' : World} {v : Value} {q : List (RSec × Value)} {b : Nat} {T : TypeId} {c0 c1 c2 : Int} {c3 c4 : Bool} {a : Option Addr} {n c : Nat} (h : RowIs w v q)
    (hb : Blk w b T #[.int .i64 c0, .int .i64 c1, .int .i64 c2, .bool c3, .bool c4, .slice a n c]) (ho : ∀ k, k ≠ b → w'.heap[k]? = w.heap[k]?) (hz : w'.heap.size = w.heap.size) : RowIs w' v q := by
  have hcell : ∀ (o : Nat) x, w.cell? ⟨b, o, none⟩ = some x → (∀ i, x ≠ .int .u64 i) ∧ ∀ s, x ≠ .string s := by
    intro o x hx
    rw [Blk.cell hb] at hx
    match o, hx with
    | 0, hx => simp at hx; subst hx; exact ⟨fun i e => (nomatch e), fun s e => (nomatch e)⟩
    | 1, hx => simp at hx; subst hx; exact ⟨fun i e => (nomatch e), fun s e => (nomatch e)⟩
    | 2, hx => simp at hx; subst hx; exact ⟨fun i e => (nomatch e), fun s e => (nomatch e)⟩
    | 3, hx => simp at hx; subst hx; exact ⟨fun i e => (nomatch e), fun s e => (nomatch e)⟩
    | 4, hx => simp at hx; subst hx; exact ⟨fun i e => (nomatch e), fun s e => (nomatch e)⟩
    | 5, hx => simp at hx; subst hx; exact ⟨fun i e => (nomatch e), fun s e => (nomatch e)⟩
    | k + 6, hx => simp at hx
  refine ⟨?_, fun x hx => ?_, h.len⟩
  · rcases h.form with h1 | ⟨g, cap, h1, h2, h3⟩
    · exact .inl h1
    · refine .inr ⟨g, cap, h1, by omega, fun j x hx => ?_⟩
      have hg : g ≠ b := by
        intro e
        subst e
        cases q with
        | nil => simp [rowR] at hx
        | cons y q =>
          have e0 := h3 0 (.int .u64 y.1.area) (by unfold rowR secR; simp)
          exact (hcell 0 _ e0).1 _ rfl
      rw [World.cell?_of_block (w := w) (a := ⟨g, j, none⟩) (ho g hg)]; exact h3 j x hx
  · obtain ⟨⟨h0, a', cap, h1, h2, h3, h4⟩, hne⟩ := h.secs x hx
    refine ⟨⟨h0, a', cap, h1, h2, h3, fun j hj => ?_⟩, hne⟩
    obtain ⟨b', o, e1, e2, e3, e4⟩ := h4 j hj
    have hb' : b' ≠ b := fun e => by subst e; exact (hcell _ _ e4).2 _ rfl
    exact ⟨b', o, e1, ⟨e2.1, e2.2.of_eq (ho b' hb')⟩, by omega, by rw [World.cell?_of_block (w := w) (a := ⟨b', o + j, none⟩) (ho b' hb')]; exact e4⟩
theorem six_heap {w : World} {b k : Nat} (x0 x1 x2 x3 x4 x5 : Value) (hk : k ≠ b) : (six w b x0 x1 x2 x3 x4 x5).heap[k]? = w.heap[k]? := by
  unfold six
  rw [Below.heap_setCell _ _ _ _ hk, Below.heap_setCell _ _ _ _ hk, Below.heap_setCell _ _ _ _ hk, Below.heap_setCell _ _ _ _ hk, Below.heap_setCell _ _ _ _ hk, Below.heap_setCell _ _ _ _ hk]
theorem six_size {w : World} {b : Nat} (x0 x1 x2 x3 x4 x5 : Value) : (six w b x0 x1 x2 x3 x4 x5).heap.size = w.heap.size := by unfold six; simp only [World.size_setCell]
theorem RowIs.six {w : World} {v : Value} {q : List (RSec × Value)} {b : Nat} {T : TypeId} {c0 c1 c2 : Int} {c3 c4 : Bool} {a : Option Addr} {n c : Nat} (h : RowIs w v q)
    (hb : Blk w b T #[.int .i64 c0, .int .i64 c1, .int .i64 c2, .bool c3, .bool c4, .slice a n c]) (x0 x1 x2 x3 x4 x5 : Value) : RowIs (R.six w b x0 x1 x2 x3 x4 x5) v q :=
  h.turn hb (fun k hk => six_heap _ _ _ _ _ _ hk) (six_size _ _ _ _ _ _)
/-- what Do answers -/
inductive DoR (r : RSt) (k a n : Int) (l : List Int) (r' : RSt) (x : Int) : Prop
  | write : k = 0 → WriteR r a n l r' x → DoR r k a n l r' x
  | sync : k = 1 → SyncR r a r' x → DoR r k a n l r' x
  | free : k = 2 → FreeR r a r' x → DoR r k a n l r' x
  | arm : k = 3 → r' = armR r n → x = 0 → DoR r k a n l r' x
  | none : k ≠ 0 → k ≠ 1 → k ≠ 2 → k ≠ 3 → r' = r → x = 0 → DoR r k a n l r' x
structure FitR (r : RSt) (q : List (RSec × Value)) : Prop where
  len : q.length < 2932031007390
  steps : 0 ≤ r.steps ∧ r.steps ≤ 4611686018427387904
  left : r.armed = true → 0 ≤ r.left
  left2 : r.left ≤ 9223372036854775807
  room : 0 ≤ r.room ∧ r.room + (q.length : Nat) ≤ 9223372036854775807
  vers : ∀ x ∈ q, x.1.L.length < 4398046511103
set_option maxRecDepth 100000 in
set_option maxHeartbeats 8000000 in
theorem rdo_any (r : RSt) (v : Value) (q : List (RSec × Value)) (k a n : Int) (bv : Value) (l : List Int) (w : World) (h : RDisk w v r q) (hF : FitR r q)
    (hI : Ints w .u8 bv l) (hl255 : ∀ x ∈ l, 0 ≤ x ∧ x ≤ 255) :
    Calls Try.prog 22 #[.agg (diskR r v), .agg #[.int .i64 k, .int .u64 a, .int .i64 n, bv]] w (AnsR w v q (DoR r k a n l)) := by
  obtain ⟨av, cv, rfl⟩ := h.1.slice
  obtain ⟨bn, cn, rfl⟩ := Ints.form hI
  have HR := Lib.hid h
  have HI := Lib.hid hI
  have HF := Lib.hid hF
  have HL := Lib.hid hl255
  obtain ⟨room, steps, left, armed, dead, rl⟩ := r
  obtain ⟨B, hB⟩ : ∃ B, w.heap.size = B := ⟨_, rfl⟩
  obtain ⟨W1, hW1⟩ : ∃ W1, (((w.alloc (.cells #[.int .i64 room, .int .i64 steps, .int .i64 left, .bool armed, .bool dead, .slice av q.length cv] 40)).alloc (.cells #[.int .i64 k, .int .u64 a, .int .i64 n, .slice bn l.length cn] 30)).alloc (.cells #[.int .i64 0, .int .i64 0, .int .i64 0, .bool false, .bool false, .slice none 0 0] 40)) = W1 := ⟨_, rfl⟩
  have hb1 : Below w.heap.size w W1 := by rw [← hW1]; exact (((Below.refl _ _).alloc (Nat.le_refl _) _).alloc (by simp) _).alloc (by simp; omega) _
  have hz1 : W1.heap.size = B + 3 := by rw [← hW1, ← hB]; simp
  have bR : Blk W1 (B + 1 + 1) 40 #[.int .i64 0, .int .i64 0, .int .i64 0, .bool false, .bool false, .slice none 0 0] := by
    rw [← hW1]
    have e : B + 1 + 1 = ((w.alloc (.cells #[.int .i64 room, .int .i64 steps, .int .i64 left, .bool armed, .bool dead, .slice av q.length cv] 40)).alloc (.cells #[.int .i64 k, .int .u64 a, .int .i64 n, .slice bn l.length cn] 30)).heap.size := by rw [← hB]; simp
    rw [e]; exact Blk.alloc_new _ _ _
  have HB1 := Lib.hid (show Below B w W1 by rw [← hB]; exact hb1)
  have HZ1 := Lib.hid hz1
  have HBR := Lib.hid bR
  have HW1 := Lib.hid hW1
  have HQ := Lib.hid (show RDisk W1 (.slice av q.length cv) ⟨room, steps, left, armed, dead, rl⟩ q from ⟨h.1.below hb1, h.2⟩)
  have HI1 := Lib.hid (hI.below hb1)
  unfold diskR
  dsimp only
  clear h hI hF hl255 hb1 hz1 bR hW1
  by_cases h0 : k = 0
  · subst h0
    go_enter Try.func22, Try.ntmps22
    go_wp2_with fail
    try rw [hB]
    try rw [HW1.out]
    refine (rwrite_any ⟨room, steps, left, armed, dead, rl⟩ (.slice av q.length cv) q a n (.slice bn l.length cn) l W1 HQ.out HF.out.len HF.out.steps HF.out.left HF.out.left2 HF.out.room HI1.out HL.out HF.out.vers).mono ?_
    rintro e w2 ⟨v', q', r', x, rfl, hdo, hrow, hqq, hb2⟩
    obtain ⟨a7, c7, rfl⟩ := hrow.1.slice
    obtain ⟨z1, z2, z3, z4, z5, z6⟩ := r'
    obtain ⟨n7, hn7⟩ : ∃ n7, q'.length = n7 := ⟨_, rfl⟩
    have HROW := Lib.hid hrow
    have HN7 := Lib.hid hn7
    rw [hn7]
    have bR2 := HBR.out.below hb2 (by have := HZ1.out; omega)
    obtain ⟨r0, r1, r2, r3, r4, r5⟩ := blk6 bR2
    obtain ⟨g0, g1, g2, g3, g4, g5⟩ := frees bR2
    have HB2 := Lib.hid (HB1.out.trans (hb2.mono (by have := HZ1.out; omega)))
    have HDO := Lib.hid hdo
    have HQQ := Lib.hid hqq
    unfold diskR
    dsimp only
    clear hrow hb2 hdo hn7 hqq
    go_wp2_with fail
    refine bodyPost_ret (results_cellT rfl _ _ (B + 1 + 1) rfl _ rfl _ #[.int .i64 z1, .int .i64 z2, .int .i64 z3, .bool z4, .bool z5, .slice a7 n7 c7] (six_blk bR2 _ _ _ _ _ _) _ Try.underlying40 rfl size_disk) rfl ?_
    have hrw := HROW.out.1
    rw [HN7.out] at hrw
    have hdo := HDO.out
    exact ⟨.slice a7 n7 c7, q', ⟨z1, z2, z3, z4, z5, z6⟩, x, rfl, DoR.write rfl hdo, ⟨hrw.six bR2 _ _ _ _ _ _, HROW.out.2⟩, (fun k hk => (HQQ.out k (by rw [HN7.out]; exact hk)).imp id (fun h => by have := HZ1.out; omega)), by rw [hB]; exact six_below HB2.out (by omega) _ _ _ _ _ _⟩
  · by_cases h1 : k = 1
    · subst h1
      go_enter Try.func22, Try.ntmps22
      go_wp2_with fail
      try rw [hB]
      try rw [HW1.out]
      refine (rsync_any ⟨room, steps, left, armed, dead, rl⟩ (.slice av q.length cv) q a W1 HQ.out HF.out.len HF.out.steps HF.out.left HF.out.left2 HF.out.room).mono ?_
      rintro e w2 ⟨v', q', r', x, rfl, hdo, hrow, hqq, hb2⟩
      obtain ⟨a7, c7, rfl⟩ := hrow.1.slice
      obtain ⟨z1, z2, z3, z4, z5, z6⟩ := r'
      obtain ⟨n7, hn7⟩ : ∃ n7, q'.length = n7 := ⟨_, rfl⟩
      have HROW := Lib.hid hrow
      have HN7 := Lib.hid hn7
      rw [hn7]
      have bR2 := HBR.out.below hb2 (by have := HZ1.out; omega)
      obtain ⟨r0, r1, r2, r3, r4, r5⟩ := blk6 bR2
      obtain ⟨g0, g1, g2, g3, g4, g5⟩ := frees bR2
      have HB2 := Lib.hid (HB1.out.trans (hb2.mono (by have := HZ1.out; omega)))
      have HDO := Lib.hid hdo
      have HQQ := Lib.hid hqq
      unfold diskR
      dsimp only
      clear hrow hb2 hdo hn7 hqq
      go_wp2_with fail
      refine bodyPost_ret (results_cellT rfl _ _ (B + 1 + 1) rfl _ rfl _ #[.int .i64 z1, .int .i64 z2, .int .i64 z3, .bool z4, .bool z5, .slice a7 n7 c7] (six_blk bR2 _ _ _ _ _ _) _ Try.underlying40 rfl size_disk) rfl ?_
      have hrw := HROW.out.1
      rw [HN7.out] at hrw
      have hdo := HDO.out
      exact ⟨.slice a7 n7 c7, q', ⟨z1, z2, z3, z4, z5, z6⟩, x, rfl, DoR.sync rfl hdo, ⟨hrw.six bR2 _ _ _ _ _ _, HROW.out.2⟩, (fun k hk => (HQQ.out k (by rw [HN7.out]; exact hk)).imp id (fun h => by have := HZ1.out; omega)), by rw [hB]; exact six_below HB2.out (by omega) _ _ _ _ _ _⟩
    · by_cases h2 : k = 2
      · subst h2
        go_enter Try.func22, Try.ntmps22
        go_wp2_with fail
        try rw [hB]
        try rw [HW1.out]
        refine (rfree_any ⟨room, steps, left, armed, dead, rl⟩ (.slice av q.length cv) q a W1 HQ.out HF.out.len HF.out.steps HF.out.left HF.out.left2 HF.out.room).mono ?_
        rintro e w2 ⟨v', q', r', x, rfl, hdo, hrow, hqq, hb2⟩
        obtain ⟨a7, c7, rfl⟩ := hrow.1.slice
        obtain ⟨z1, z2, z3, z4, z5, z6⟩ := r'
        obtain ⟨n7, hn7⟩ : ∃ n7, q'.length = n7 := ⟨_, rfl⟩
        have HROW := Lib.hid hrow
        have HN7 := Lib.hid hn7
        rw [hn7]
        have bR2 := HBR.out.below hb2 (by have := HZ1.out; omega)
        obtain ⟨r0, r1, r2, r3, r4, r5⟩ := blk6 bR2
        obtain ⟨g0, g1, g2, g3, g4, g5⟩ := frees bR2
        have HB2 := Lib.hid (HB1.out.trans (hb2.mono (by have := HZ1.out; omega)))
        have HDO := Lib.hid hdo
        have HQQ := Lib.hid hqq
        unfold diskR
        dsimp only
        clear hrow hb2 hdo hn7 hqq
        go_wp2_with fail
        refine bodyPost_ret (results_cellT rfl _ _ (B + 1 + 1) rfl _ rfl _ #[.int .i64 z1, .int .i64 z2, .int .i64 z3, .bool z4, .bool z5, .slice a7 n7 c7] (six_blk bR2 _ _ _ _ _ _) _ Try.underlying40 rfl size_disk) rfl ?_
        have hrw := HROW.out.1
        rw [HN7.out] at hrw
        have hdo := HDO.out
        exact ⟨.slice a7 n7 c7, q', ⟨z1, z2, z3, z4, z5, z6⟩, x, rfl, DoR.free rfl hdo, ⟨hrw.six bR2 _ _ _ _ _ _, HROW.out.2⟩, (fun k hk => (HQQ.out k (by rw [HN7.out]; exact hk)).imp id (fun h => by have := HZ1.out; omega)), by rw [hB]; exact six_below HB2.out (by omega) _ _ _ _ _ _⟩
      · by_cases h3 : k = 3
        · subst h3
          go_enter Try.func22, Try.ntmps22
          go_wp2_with fail
          try rw [hB]
          try rw [HW1.out]
          refine (rarm_any ⟨room, steps, left, armed, dead, rl⟩ av q.length cv n W1).mono ?_
          rintro e w2 ⟨rfl, hb2⟩
          obtain ⟨r', hr'⟩ : ∃ r', armR ⟨room, steps, left, armed, dead, rl⟩ n = r' := ⟨_, rfl⟩
          rw [hr']
          have hrow : RDisk w2 (.slice av q.length cv) r' q := by rw [← hr']; exact ⟨HQ.out.1.below hb2, by have e := HQ.out.2; rw [e]; unfold armR; split <;> rfl⟩
          have hdo : r' = armR ⟨room, steps, left, armed, dead, rl⟩ n := hr'.symm
          clear hr'
          obtain ⟨z1, z2, z3, z4, z5, z6⟩ := r'
          have HROW := Lib.hid hrow
          have bR2 := HBR.out.below hb2 (by have := HZ1.out; omega)
          obtain ⟨r0, r1, r2, r3, r4, r5⟩ := blk6 bR2
          obtain ⟨g0, g1, g2, g3, g4, g5⟩ := frees bR2
          have HB2 := Lib.hid (HB1.out.trans (hb2.mono (by have := HZ1.out; omega)))
          have HDO := Lib.hid hdo
          unfold diskR
          dsimp only
          clear hrow hb2 hdo
          go_wp2_with fail
          refine bodyPost_ret (results_cellT rfl _ _ (B + 1 + 1) rfl _ rfl _ #[.int .i64 z1, .int .i64 z2, .int .i64 z3, .bool z4, .bool z5, .slice av q.length cv] (six_blk bR2 _ _ _ _ _ _) _ Try.underlying40 rfl size_disk) rfl ?_
          exact ⟨.slice av q.length cv, q, ⟨z1, z2, z3, z4, z5, z6⟩, _, rfl, DoR.arm rfl HDO.out rfl, ⟨HROW.out.1.six bR2 _ _ _ _ _ _, HROW.out.2⟩, (fun k hk => .inl hk), by rw [hB]; exact six_below HB2.out (by omega) _ _ _ _ _ _⟩
        · have hk0 : (k == 0) = false := by simp [h0]
          have hk1 : (k == 1) = false := by simp [h1]
          have hk2 : (k == 2) = false := by simp [h2]
          have hk3 : (k == 3) = false := by simp [h3]
          go_enter Try.func22, Try.ntmps22
          go_wp2_with fail
          refine bodyPost_ret (results_cellT rfl _ _ (B + 1 + 1) rfl _ rfl _ #[.int .i64 room, .int .i64 steps, .int .i64 left, .bool armed, .bool dead, .slice av q.length cv] (by
            have e : B + 1 + 1 = ((w.alloc (.cells #[.int .i64 room, .int .i64 steps, .int .i64 left, .bool armed, .bool dead, .slice av q.length cv] 40)).alloc (.cells #[.int .i64 k, .int .u64 a, .int .i64 n, .slice bn l.length cn] 30)).heap.size := by rw [← hB]; simp
            rw [e]; exact Blk.alloc_new _ _ _) _ Try.underlying40 rfl size_disk) rfl ?_
          have hbx := (((Below.refl w.heap.size w).alloc (Nat.le_refl _) (.cells #[.int .i64 room, .int .i64 steps, .int .i64 left, .bool armed, .bool dead, .slice av q.length cv] 40)).alloc (by simp) (.cells #[.int .i64 k, .int .u64 a, .int .i64 n, .slice bn l.length cn] 30)).alloc (by simp; omega) (.cells #[.int .i64 room, .int .i64 steps, .int .i64 left, .bool armed, .bool dead, .slice av q.length cv] 40)
          exact ⟨_, q, ⟨room, steps, left, armed, dead, rl⟩, 0, rfl, DoR.none h0 h1 h2 h3 rfl rfl, ⟨HR.out.1.below hbx, HR.out.2⟩, (fun k hk => .inl hk), hbx⟩
end Go.Proofs.Yteidmneenfdafaa.R
