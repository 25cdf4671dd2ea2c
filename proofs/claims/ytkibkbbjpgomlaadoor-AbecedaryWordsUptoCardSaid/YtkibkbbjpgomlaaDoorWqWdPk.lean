/-
  WdPk.
-/
import Derived.Test.YtkibkbbjpgomlaaDoorWqWdRt0
import Derived.Test.YtkibkbbjpgomlaaDoorWqWdPut
import Derived.Deep.RegionHeld3
namespace Go.Proofs.YtkibkbbjpgomlaaDoor.F
open Go.RowKit Go.Shelf Go.Maps
open Aid L LM
open W (putU putU_ten PutTo PutEnd put_any)
set_option linter.unusedSimpArgs false
set_option linter.unusedVariables false
attribute [local go_sem] Oper.semAt_some

theorem put_below {B : Nat} {w w' : World} {v x : Value} (h : PutTo w v w' x) (hv : ∀ g, v.ownBlock = some g → B ≤ g) (hB : B ≤ w.heap.size) : Below B w w' :=
  ⟨h.1.os, h.1.tape, h.1.output, h.1.size, fun k hk => h.1.kept k (by omega) (fun e => by have := hv k e; omega)⟩
theorem own_far {w : World} {Q : Nat} {v : Value} {l : List Int} (h : W.Own w Q v l) : ∀ g, v.ownBlock = some g → Q ≤ g := owns_base h
theorem own_lt {w : World} {Q : Nat} {v : Value} {l : List Int} (h : W.Own w Q v l) : ∀ g, v.ownBlock = some g → g < w.heap.size := fun g hg => by
  rcases h.2 with ⟨e, _⟩ | ⟨g', cap, cur, e1, e2, e3, r⟩
  · rw [e] at hg; cases hg
  · rw [e1] at hg
    have : g' = g := by simpa [Value.ownBlock] using hg
    rw [← this]
    exact (Array.getElem?_eq_some_iff.1 e3).1
/-- a block that is not the row's own stays -/
theorem put_blk {w w' : World} {v x : Value} (h : PutTo w v w' x) {g : Nat} {t : TypeId} {cs : Array Value} (hb : Blk w g t cs) (hg : v.ownBlock ≠ some g) : Blk w' g t cs := h.1.blk hb hg
def PkLp (w : World) (Q : Nat) (v : Value) (l : List Int) (wr : World) : Prop := W.Own wr Q v l ∧ Below w.heap.size w wr
theorem own_form {w : World} {Q : Nat} {v : Value} {l : List Int} (h : W.Own w Q v l) : ∃ a n c, v = .slice a n c := by
  rcases h.2 with ⟨e, _⟩ | ⟨g', cap, cur, e1, _⟩
  · exact ⟨_, _, _, e⟩
  · exact ⟨_, _, _, e1⟩
theorem stsB_append : ∀ (l m : List StM) (i : Nat), stsB i (l ++ m) = stsB i l ++ stsB (i + l.length) m
  | [], m, i => by simp [stsB]
  | s :: l, m, i => by rw [List.cons_append, stsB, stsB, stsB_append l m (i + 1), List.append_assoc, List.length_cons, show i + 1 + l.length = i + (l.length + 1) by omega]
/-- a world but for what was drawn -/
def Own0 (w w' : World) : Prop := w'.heap = w.heap ∧ w'.heap.size = w.heap.size
theorem own0 {w w' : World} {Q : Nat} {v : Value} {l : List Int} (h : Own0 w w') (ho : W.Own w Q v l) : W.Own w' Q v l := by
  obtain ⟨h1, h2⟩ := ho
  refine ⟨h1, ?_⟩
  rw [h.1]
  exact h2
theorem arcsB_append (i : Nat) : ∀ (l m : List ArcM) (lab : Int), arcsB i lab (l ++ m) = arcsB i lab l ++ arcsB i (lastL lab l) m
  | [], m, lab => by simp [arcsB, lastL]
  | b :: l, m, lab => by rw [List.cons_append, arcsB, arcsB, arcsB_append i l m b.label, lastL, List.append_assoc]
theorem put_undrew {w w' : World} {v x : Value} (h : PutTo w.drew v w' x) : PutTo w v w' x := ⟨⟨h.1.size, h.1.os, h.1.tape, h.1.output, h.1.kept⟩, h.2⟩
def PackEnd (w : World) (l : List Int) (e : Ending) (w' : World) : Prop := ∃ v, e = .returned (.tuple #[v, .int .i64 0]) ∧ Ints w' .u8 v l ∧ Below w.heap.size w w'
set_option maxRecDepth 100000 in
set_option maxHeartbeats 8000000 in
theorem pack_any (B : Int) (sv : Value) (S : List StM) (w : World) (hS : StatesAre (fun _ => False) w sv S) (hM : MachR B S) (T : Tab w) :
    Calls Tryd.prog 6 #[.agg #[.int .i64 B, sv]] w (PackEnd w (packF B S)) := by
  obtain ⟨a, cp, rfl⟩ := hS.slice
  have hbase := hM.base
  have hfew := hM.few
  have hSw := hM.w hS.arcs
  obtain ⟨b, rfl⟩ : ∃ b : Nat, B = (b : Int) := ⟨B.toNat, by omega⟩
  obtain ⟨N, hN⟩ : ∃ N, S.length = N := ⟨_, rfl⟩
  have hplen := packF_len (b : Int) S hbase.2 hfew hSw
  rw [hN] at hfew ⊢
  obtain ⟨Q, hQ⟩ : ∃ Q, w.heap.size = Q := ⟨_, rfl⟩
  obtain ⟨W1, hW1⟩ : ∃ W1, w.alloc (.cells #[.int .i64 b, .slice a N cp] 25) = W1 := ⟨_, rfl⟩
  have hb1 : Below w.heap.size w W1 := by rw [← hW1]; exact (Below.refl _ _).alloc (Nat.le_refl _) _
  have bM : Blk W1 Q 25 #[.int .i64 b, .slice a N cp] := by rw [← hW1, ← hQ]; exact Blk.alloc_new _ _ _
  have hR := right_all (b : Int) (.slice a S.length cp) S W1 (hS.below hb1) hM (T.below hb1)
  rw [hN] at hR
  have m0 : W1.cell? ⟨Q, 0, none⟩ = some (.int .i64 b) := (Blk.cell bM 0).trans rfl
  have m1 : W1.cell? ⟨Q, 1, none⟩ = some (.slice a N cp) := (Blk.cell bM 1).trans rfl
  have mm := two_cells m0 m1
  have HB1 := Lib.hid (And.intro hb1 bM)
  have HR := Lib.hid hR
  have HS := Lib.hid hS
  have HW := Lib.hid (And.intro hSw (And.intro hN hplen))
  clear hb1 bM hR hS hSw hM hN T hplen
  go_enter Tryd.func6, Tryd.ntmps6
  go_wp2_with fail
  refine HR.out.mono ?_
  rintro e w2 ⟨rfl, hb2⟩
  obtain ⟨hb1, bM⟩ := HB1.out
  have bM2 := bM.below hb2 bM.lt
  have hw2 : Below w.heap.size w w2 := hb1.trans (hb2.mono hb1.size)
  have hQ2 : Q ≤ w2.heap.size := by rw [← hQ]; exact hw2.size
  have m0 : w2.cell? ⟨Q, 0, none⟩ = some (.int .i64 b) := (Blk.cell bM2 0).trans rfl
  have m1 : w2.cell? ⟨Q, 1, none⟩ = some (.slice a N cp) := (Blk.cell bM2 1).trans rfl
  have HCE := Lib.hid (show ∀ w', Below w2.heap.size w2 w' → w'.cell? ⟨Q, 0, none⟩ = some (.int .i64 b) ∧ w'.cell? ⟨Q, 1, none⟩ = some (.slice a N cp) ∧ Q ≤ w'.heap.size from fun w' hb => ⟨(Blk.cell (bM2.below hb bM2.lt) 0).trans rfl, (Blk.cell (bM2.below hb bM2.lt) 1).trans rfl, Nat.le_trans hQ2 hb.size⟩)
  have hbn : b < 9223372036854775808 := by omega
  have hNn : N < 9223372036854775808 := by omega
  have hten := putU_ten (n := b) (by omega)
  have HW2 := Lib.hid hw2
  clear hb1 bM bM2 hb2 hw2 mm hQ2 HR HB1
  go_wp2_with fail
  go_region_held3 (fun w' => Below w2.heap.size w2 w' ∧ w'.cell? ⟨Q, 0, none⟩ = some (.int .i64 b) ∧ w'.cell? ⟨Q, 1, none⟩ = some (.slice a N cp)) (first | assumption | (exact ⟨Below.refl _ _, m0, m1⟩) | (exact ⟨Below.drew (Below.refl _ _), (HCE.out _ (Below.drew (Below.refl _ _))).1, (HCE.out _ (Below.drew (Below.refl _ _))).2.1⟩)) (first
    | (go_at_call 19; refine (put_any Q (.slice none 0 0) [] b _ (World.ownsRow_nil _ _ _ _) (HCE.out _ (And.left (by assumption))).2.2 (by simp) hbn).mono ?_; rintro e wz ⟨v1, rfl, hO1, hP1⟩; have hz := (And.left (by assumption) : Below w2.heap.size w2 _).trans (put_below (B := w2.heap.size) hP1 (fun g h => by cases h) (And.left (by assumption) : Below w2.heap.size w2 _).size); have hv1 := hP1.2; have kz : Below w2.heap.size w2 wz ∧ wz.cell? ⟨Q, 0, none⟩ = some (.int .i64 b) ∧ wz.cell? ⟨Q, 1, none⟩ = some (.slice a N cp) := ⟨hz, (HCE.out _ hz).1, (HCE.out _ hz).2.1⟩; clear hP1)
    | (go_at_call 19; refine (put_any Q v1 ([] ++ putU b) N _ hO1 (HCE.out _ hz).2.2 (by rw [List.nil_append]; omega) hNn).mono ?_; rintro e wy ⟨v2, rfl, hO2, hP2⟩; have ky : Below w2.heap.size w2 wy ∧ wy.cell? ⟨Q, 0, none⟩ = some (.int .i64 b) ∧ wy.cell? ⟨Q, 1, none⟩ = some (.slice a N cp) := (fun h9 => ⟨h9, (HCE.out _ h9).1, (HCE.out _ h9).2.1⟩) (hz.trans (put_below (B := w2.heap.size) hP2 (fun g h => (hv1 g h).elim (fun e => (nomatch e)) id) hz.size)); clear hP2))
  have hwy : Below w2.heap.size w2 wy := ky.1
  have n1 := ky.2.2
  have hwyw : Below w.heap.size w wy := HW2.out.trans (hwy.mono HW2.out.size)
  have HST := Lib.hid (show PkLp w Q v2 (putU b ++ (putU N ++ stsB 0 (S.take 0))) wy from ⟨by
    have e : putU b ++ (putU N ++ stsB 0 (S.take 0)) = [] ++ putU b ++ putU N := by simp [stsB]
    rw [e]; exact hO2, hwyw⟩)
  clear hO1 hz hv1 kz hO2 hwy hwyw HW2 HCE m0 m1 hten
  go_wp2_with fail
  go_loopw [4, 24] (fun x4 x24 wr => ∃ k : Nat, x24 = .int .i64 k ∧ k ≤ N ∧ (∃ va vn vc, x4 = .slice va vn vc) ∧ Hid (PkLp w Q x4 (putU b ++ (putU N ++ stsB 0 (S.take k))) wr)) (fun _ x24 _ => N - (intOf x24).toNat)
  case atStart => exact ⟨0, rfl, Nat.zero_le _, own_form HST.out.1, HST⟩
  case round =>
    clear HST
    obtain ⟨k, rfl, hk, ⟨va, vn, vc, rfl⟩, HL⟩ := hrel
    by_cases hlt : (k : Int) < (N : Int)
    · obtain ⟨s, hs⟩ : ∃ s, S[k]? = some s := ⟨_, List.getElem?_eq_getElem (by have := HW.out.2.1; omega)⟩
      have hsw := HW.out.1 k s hs
      have hS := HS.out
      rw [HW.out.2.1] at hS
      obtain ⟨g, off, u, rfl, hg, _, c0, c1, c2, hu⟩ := hS.at_ hs
      have hnext : stsB 0 (S.take (k + 1)) = stsB 0 (S.take k) ++ stB k s := by
        rw [take_snoc hs, stsB_snoc, Nat.zero_add, List.length_take, show min k S.length = k by have := HW.out.2.1; omega]
      obtain ⟨hO, hbel⟩ := HL.out
      have hpl : (putU b ++ (putU N ++ stsB 0 (S.take k))).length + (stB k s).length ≤ 5000000000000 := by
        have h1 := HW.out.2.2
        have h2 : stsB 0 S = stsB 0 (S.take (k + 1)) ++ stsB (k + 1) (S.drop (k + 1)) := by
          have := stsB_append (S.take (k + 1)) (S.drop (k + 1)) 0
          rw [List.take_append_drop] at this
          rw [this, Nat.zero_add, List.length_take, show min (k + 1) S.length = k + 1 by have := HW.out.2.1; omega]
        unfold packF at h1
        rw [h2, hnext, HW.out.2.1, show ((b : Nat) : Int).toNat = b by omega] at h1
        simp only [List.length_append] at h1 ⊢
        omega
      obtain ⟨pre, hpre⟩ : ∃ pre, putU b ++ (putU N ++ stsB 0 (S.take k)) = pre := ⟨_, rfl⟩
      have hnx : putU b ++ (putU N ++ stsB 0 (S.take (k + 1))) = pre ++ stB k s := by rw [hnext, ← hpre]; simp
      rw [hpre] at hO hpl
      obtain ⟨fin, out, A⟩ := s
      obtain ⟨q1, ⟨q2, q3⟩, q4, q5, q6⟩ := hsw
      dsimp only at c0 c1 c2 hu q1 q2 q3 q4 q5 q6
      obtain ⟨o, rfl⟩ : ∃ o : Nat, out = (o : Int) := ⟨out.toNat, by omega⟩
      obtain ⟨ua, uc, rfl⟩ := hu.slice
      obtain ⟨n, hn⟩ : ∃ n, A.length = n := ⟨_, rfl⟩
      rw [hn] at c2 hu q1
      have d0 := (hbel.cell (p := ⟨g, off + k * 3, none⟩) hg).trans c0
      have d1 := (hbel.cell (p := ⟨g, off + k * 3 + 1, none⟩) hg).trans c1
      have d2 := (hbel.cell (p := ⟨g, off + k * 3 + 2, none⟩) hg).trans c2
      have hd := three_cells d0 d1 d2
      obtain ⟨K, hK⟩ : ∃ K, wr.heap.size = K := ⟨_, rfl⟩
      obtain ⟨W5, hW5⟩ : ∃ W5, wr.alloc (.cells #[.bool fin, .int .i64 o, .slice ua n uc] 61) = W5 := ⟨_, rfl⟩
      have hb5 : Below wr.heap.size wr W5 := by rw [← hW5]; exact (Below.refl _ _).alloc (Nat.le_refl _) _
      have bK : Blk W5 K 61 #[.bool fin, .int .i64 o, .slice ua n uc] := by rw [← hW5, ← hK]; exact Blk.alloc_new _ _ _
      have hw5 : Below w.heap.size w W5 := hbel.trans (hb5.mono hbel.size)
      have hO5 : W.Own W5 Q (.slice va vn vc) pre := owns_below hO hb5
      have hvK : ∀ g', (Value.slice va vn vc).ownBlock = some g' → g' < K := fun g' h => by rw [← hK]; exact own_lt hO g' h
      have k0 : W5.cell? ⟨K, 0, none⟩ = some (.bool fin) := (Blk.cell bK 0).trans rfl
      have k1 : W5.cell? ⟨K, 1, none⟩ = some (.int .i64 o) := (Blk.cell bK 1).trans rfl
      have k2 : W5.cell? ⟨K, 2, none⟩ = some (.slice ua n uc) := (Blk.cell bK 2).trans rfl
      have hQ5 : Q ≤ W5.heap.size := by rw [← hQ]; exact hw5.size
      have HO5 := Lib.hid (And.intro hO5 (And.intro hvK (And.intro hw5 (And.intro bK hQ5))))
      have HU := Lib.hid (And.intro hu (And.intro hn (And.intro hg (And.intro q5 (And.intro q6 q4)))))
      have HNX := Lib.hid (And.intro hnx hpl)
      have hk0 : (0 : Int) ≤ (k : Int) := by omega
      clear hS hu c0 c1 c2 hs hnext hO hbel hnx hpl q4 q5 q6 hb5 bK hw5 hO5 hvK hn hg HL hpre hQ5
      cases fin with
      | true =>
        have e1 : ((2 * n + 1 : Nat) : Int) = 2 * (n : Int) + 1 := by push_cast; rfl
        have hQ5 := HO5.out.2.2.2.2
        have hT0 : Q ≤ W5.heap.size ∧ W5.cell? ⟨K, 1, none⟩ = some (.int .i64 o) := ⟨hQ5, k1⟩
        have hC1 : ∀ w', Own0 W5 w' → Calls Tryd.prog 19 #[.slice va vn vc, .int .i64 (2 * (n : Int) + 1)] w' (PutEnd Q w' (.slice va vn vc) (pre ++ putU (2 * n + 1))) := fun w' h => by
          have := put_any Q (.slice va vn vc) pre (2 * n + 1) w' (own0 h HO5.out.1) (by rw [h.2]; exact hQ5) (by have := HNX.out.2; omega) (by omega)
          rw [e1] at this
          exact this
        have HC1 := Lib.hid hC1
        have hi0 : IntKind.i64.wrap (2 * (n : Int) + 1) = 2 * (n : Int) + 1 := IntWalk.i64_in _ (by omega)
        have hKl : K < W5.heap.size := HO5.out.2.2.2.1.lt
        have hlen1 := putU_ten (n := 2 * n + 1) (by omega)
        clear hC1 e1
        go_wp2_with fail
        go_region_held3 (fun w' => Q ≤ w'.heap.size ∧ w'.cell? ⟨K, 1, none⟩ = some (.int .i64 o)) (first | assumption | (exact ⟨hQ5, k1⟩)) (first
          | (go_at_call 19; refine (HC1.out W5.drew ⟨rfl, rfl⟩).mono ?_; rintro e wz ⟨v1, rfl, hO1, hP1⟩; have hP1 := put_undrew hP1; have kz : Q ≤ wz.heap.size ∧ wz.cell? ⟨K, 1, none⟩ = some (.int .i64 o) := ⟨Nat.le_trans hQ5 hP1.1.size, (hP1.1.cell hKl (fun h => by have := HO5.out.2.1 K h; omega) 1).trans k1⟩; clear HC1)
          | (go_at_call 19; refine (put_any Q v1 (pre ++ putU (2 * n + 1)) o _ hO1 kz.1 (by rw [List.length_append]; have := HNX.out.2; omega) (by omega)).mono ?_; rintro e w4 ⟨v4, rfl, hO4, hP2⟩; have hPT := hP1.trans hP2; have ky : Q ≤ w4.heap.size ∧ w4.cell? ⟨K, 1, none⟩ = some (.int .i64 o) := ⟨Nat.le_trans hQ5 hPT.1.size, (hPT.1.cell hKl (fun h => by have := HO5.out.2.1 K h; omega) 1).trans k1⟩; clear hP2))
        have hO4 : W.Own w4 Q v4 (pre ++ headB ⟨true, (o : Int), A⟩) := by
          have e : headB ⟨true, (o : Int), A⟩ = putU (2 * n + 1) ++ putU o := by
            unfold headB
            rw [if_pos rfl]
            dsimp only
            rw [HU.out.2.1, show ((o : Nat) : Int).toNat = o by omega]
          rw [e, ← List.append_assoc]; exact hO4
        clear hO1 hP1 kz ky hT0 hQ5 hlen1
        obtain ⟨va4, vn4, vc4, rfl⟩ := own_form hO4
        have bK4 := put_blk hPT HO5.out.2.2.2.1 (fun h => by have := HO5.out.2.1 K h; omega)
        have hw4 : Below w.heap.size w w4 := HO5.out.2.2.1.trans (put_below hPT (fun g' h => by rw [hQ]; exact own_far HO5.out.1 g' h) HO5.out.2.2.1.size)
        have k2 : w4.cell? ⟨K, 2, none⟩ = some (.slice ua n uc) := (Blk.cell bK4 2).trans rfl
        have HST := Lib.hid (show PkLp w Q (.slice va4 vn4 vc4) (pre ++ headB ⟨true, (o : Int), A⟩ ++ arcsB k 0 (A.take 0)) w4 from ⟨by simp only [List.take_zero, arcsB, List.append_nil]; exact hO4, hw4⟩)
        clear hO4 hPT bK4 hw4 k0 k1 hKl
        go_wp2_with fail
        go_loopw [4, 8, 48] (fun x4 x8 x48 wr => ∃ j : Nat, x48 = .int .i64 j ∧ j ≤ n ∧ x8 = .int .i32 (lastL 0 (A.take j)) ∧ (∃ va vn vc, x4 = .slice va vn vc) ∧ Hid (PkLp w Q x4 (pre ++ headB ⟨true, (o : Int), A⟩ ++ arcsB k 0 (A.take j)) wr)) (fun _ _ x48 _ => n - (intOf x48).toNat)
        case atStart => exact ⟨0, rfl, Nat.zero_le _, rfl, ⟨_, _, _, rfl⟩, HST⟩
        case round =>
          clear HST
          obtain ⟨j, rfl, hj, rfl, ⟨va5, vn5, vc5, rfl⟩, HJ⟩ := hrel
          by_cases hjl : (j : Int) < (n : Int)
          · obtain ⟨hu, hn, hg, q5, q6, q4⟩ := HU.out
            clear q4
            obtain ⟨y, hy⟩ : ∃ y, A[j]? = some y := ⟨_, List.getElem?_eq_getElem (by omega)⟩
            obtain ⟨ga, offa, ea, hga, _, hca⟩ := hu.at_ hy
            subst ea
            obtain ⟨lb1, lb2⟩ := q5.le (s := ⟨true, (o : Int), A⟩) (fun a ha => (q6 a ha).1.1) hy
            obtain ⟨⟨y1, y2⟩, ⟨y3, y4⟩, y5, y6⟩ := q6 y (List.mem_of_getElem? hy)
            have hnextA : arcsB k 0 (A.take (j + 1)) = arcsB k 0 (A.take j) ++ arcB k (lastL 0 (A.take j)) y := by rw [take_snoc hy, arcsB_snoc]
            have hlastA : lastL 0 (A.take (j + 1)) = y.label := by rw [take_snoc hy, lastL_snoc]
            dsimp only at lb1 lb2
            obtain ⟨lab, hlab⟩ : ∃ lab, lastL 0 (A.take j) = lab := ⟨_, rfl⟩
            rw [hlab] at hnextA lb1 lb2 ⊢
            have halen : (arcB k lab y).length ≤ 30 := (arcB_len k lab y (by omega) (by omega) (by omega)).1
            have hpl : (pre ++ headB ⟨true, (o : Int), A⟩ ++ arcsB k 0 (A.take j)).length + (arcB k lab y).length ≤ 5000000000000 := by
              have h1 := HNX.out.2
              unfold stB at h1
              dsimp only at h1
              have h2 : arcsB k 0 A = arcsB k 0 (A.take (j + 1)) ++ arcsB k (lastL 0 (A.take (j + 1))) (A.drop (j + 1)) := by
                have := arcsB_append k (A.take (j + 1)) (A.drop (j + 1)) 0
                rw [List.take_append_drop] at this
                exact this
              rw [h2, hnextA] at h1
              simp only [List.length_append] at h1 ⊢
              omega
            obtain ⟨pj, hpj⟩ : ∃ pj, pre ++ headB ⟨true, (o : Int), A⟩ ++ arcsB k 0 (A.take j) = pj := ⟨_, rfl⟩
            have hnxA : pre ++ headB ⟨true, (o : Int), A⟩ ++ arcsB k 0 (A.take (j + 1)) = pj ++ arcB k lab y := by rw [hnextA, ← hpj]; simp
            rw [hpj] at hpl
            obtain ⟨hOj, hbj⟩ := HJ.out
            rw [hpj] at hOj
            obtain ⟨la, ou, tt⟩ := y
            unfold arcB at hnxA halen hpl
            dsimp only at y1 y2 y3 y4 y5 y6 lb2 hnxA hlastA halen hpl
            obtain ⟨dl, hdl⟩ : ∃ dl : Nat, la - lab = (dl : Int) := ⟨(la - lab).toNat, by omega⟩
            obtain ⟨on, rfl⟩ : ∃ on : Nat, ou = (on : Int) := ⟨ou.toNat, by omega⟩
            obtain ⟨by_, hby⟩ : ∃ by_ : Nat, (k : Int) - tt = (by_ : Int) := ⟨((k : Int) - tt).toNat, by omega⟩
            rw [hdl, hby, show ((dl : Nat) : Int).toNat = dl by omega, show ((on : Nat) : Int).toNat = on by omega, show ((by_ : Nat) : Int).toNat = by_ by omega] at hnxA
            have f0 : wr.cell? ⟨ga, offa + j * 3, none⟩ = some (.int .i32 la) := (hbj.cell (p := ⟨ga, offa + j * 3, none⟩) hga).trans (hca 0 (by show 0 < 3; omega))
            have f1 : wr.cell? ⟨ga, offa + j * 3 + 1, none⟩ = some (.int .i64 on) := (hbj.cell (p := ⟨ga, offa + j * 3 + 1, none⟩) hga).trans (hca 1 (by show 1 < 3; omega))
            have f2 : wr.cell? ⟨ga, offa + j * 3 + 2, none⟩ = some (.int .i64 tt) := (hbj.cell (p := ⟨ga, offa + j * 3 + 2, none⟩) hga).trans (hca 2 (by show 2 < 3; omega))
            have hf := three_cells f0 f1 f2
            obtain ⟨K2, hK2⟩ : ∃ K2, wr.heap.size = K2 := ⟨_, rfl⟩
            obtain ⟨W7, hW7⟩ : ∃ W7, wr.alloc (.cells #[.int .i32 la, .int .i64 on, .int .i64 tt] 63) = W7 := ⟨_, rfl⟩
            have hb7 : Below wr.heap.size wr W7 := by rw [← hW7]; exact (Below.refl _ _).alloc (Nat.le_refl _) _
            have bK2 : Blk W7 K2 63 #[.int .i32 la, .int .i64 on, .int .i64 tt] := by rw [← hW7, ← hK2]; exact Blk.alloc_new _ _ _
            have hw7 : Below w.heap.size w W7 := hbj.trans (hb7.mono hbj.size)
            have hO7 : W.Own W7 Q (.slice va5 vn5 vc5) pj := owns_below hOj hb7
            have hvK2 : ∀ g', (Value.slice va5 vn5 vc5).ownBlock = some g' → g' < K2 := fun g' h => by rw [← hK2]; exact own_lt hOj g' h
            have x0 : W7.cell? ⟨K2, 0, none⟩ = some (.int .i32 la) := (Blk.cell bK2 0).trans rfl
            have x1 : W7.cell? ⟨K2, 1, none⟩ = some (.int .i64 on) := (Blk.cell bK2 1).trans rfl
            have x2 : W7.cell? ⟨K2, 2, none⟩ = some (.int .i64 tt) := (Blk.cell bK2 2).trans rfl
            have hQ7 : Q ≤ W7.heap.size := by rw [← hQ]; exact hw7.size
            have hKl2 : K2 < W7.heap.size := bK2.lt
            have hT0 : Q ≤ W7.heap.size ∧ W7.cell? ⟨K2, 0, none⟩ = some (.int .i32 la) ∧ W7.cell? ⟨K2, 1, none⟩ = some (.int .i64 on) ∧ W7.cell? ⟨K2, 2, none⟩ = some (.int .i64 tt) := ⟨hQ7, x0, x1, x2⟩
            have hi1 : IntKind.i32.wrap (la - lab) = (dl : Int) := by rw [← hdl]; exact IntWalk.i32_in _ (by omega)
            have hi3 : IntKind.i64.wrap (dl : Int) = (dl : Int) := IntWalk.i64_in _ (by omega)
            have hi4 : IntKind.i64.wrap ((k : Int) - tt) = (by_ : Int) := by rw [← hby]; exact IntWalk.i64_in _ (by omega)
            have hi2 : wrap64 ((k : Int) - tt) = (by_ : Int) := by rw [← hby]; exact IntWalk.wrap64_in _ (by omega)
            have hdlb : dl ≤ 1114111 := by omega
            have hbyb : by_ ≤ 1000000 := by omega
            have hten1 := putU_ten (n := dl) (by omega)
            have hten2 := putU_ten (n := on) (by omega)
            have hten3 := putU_ten (n := by_) (by omega)
            have hpjl : pj.length ≤ 5000000000000 := by omega
            have HC1 := Lib.hid (show ∀ w', Own0 W7 w' → Calls Tryd.prog 19 #[.slice va5 vn5 vc5, .int .i64 (dl : Int)] w' (PutEnd Q w' (.slice va5 vn5 vc5) (pj ++ putU dl)) from fun w' h =>
              put_any Q (.slice va5 vn5 vc5) pj dl w' (own0 h hO7) (by rw [h.2]; exact hQ7) (by omega) (by omega))
            have HO7 := Lib.hid (And.intro hO7 (And.intro hvK2 (And.intro hw7 bK2)))
            have HNA := Lib.hid (And.intro hnxA hlastA)
            have hj0 : (0 : Int) ≤ (j : Int) := by omega
            clear hu hn hg q5 q6 hy hca hnextA hlastA halen hpl hpj hnxA hOj hbj hdl hby hb7 bK2 hw7 hO7 hvK2 hlab y5 y6
            go_wp2_with fail
            go_region_held3 (fun w' => Q ≤ w'.heap.size ∧ w'.cell? ⟨K2, 0, none⟩ = some (.int .i32 la) ∧ w'.cell? ⟨K2, 1, none⟩ = some (.int .i64 on) ∧ w'.cell? ⟨K2, 2, none⟩ = some (.int .i64 tt)) (first | assumption | (exact ⟨hQ7, x0, x1, x2⟩)) (first
              | (go_at_call 19; refine (HC1.out W7.drew ⟨rfl, rfl⟩).mono ?_; rintro e wa ⟨v6, rfl, hO8, hP1⟩; have hP1 := put_undrew hP1; have kwa : Q ≤ wa.heap.size ∧ wa.cell? ⟨K2, 0, none⟩ = some (.int .i32 la) ∧ wa.cell? ⟨K2, 1, none⟩ = some (.int .i64 on) ∧ wa.cell? ⟨K2, 2, none⟩ = some (.int .i64 tt) := ⟨Nat.le_trans hQ7 hP1.1.size, (hP1.1.cell hKl2 (fun h => by have := HO7.out.2.1 K2 h; omega) 0).trans x0, (hP1.1.cell hKl2 (fun h => by have := HO7.out.2.1 K2 h; omega) 1).trans x1, (hP1.1.cell hKl2 (fun h => by have := HO7.out.2.1 K2 h; omega) 2).trans x2⟩; clear HC1)
              | (go_at_call 19; refine (put_any Q v6 (pj ++ putU dl) on _ hO8 kwa.1 (by rw [List.length_append]; omega) (by omega)).mono ?_; rintro e wb ⟨v7, rfl, hO9, hP2⟩; have hP2 := hP1.trans hP2; have kwb : Q ≤ wb.heap.size ∧ wb.cell? ⟨K2, 0, none⟩ = some (.int .i32 la) ∧ wb.cell? ⟨K2, 1, none⟩ = some (.int .i64 on) ∧ wb.cell? ⟨K2, 2, none⟩ = some (.int .i64 tt) := ⟨Nat.le_trans hQ7 hP2.1.size, (hP2.1.cell hKl2 (fun h => by have := HO7.out.2.1 K2 h; omega) 0).trans x0, (hP2.1.cell hKl2 (fun h => by have := HO7.out.2.1 K2 h; omega) 1).trans x1, (hP2.1.cell hKl2 (fun h => by have := HO7.out.2.1 K2 h; omega) 2).trans x2⟩)
              | (go_at_call 19; refine (put_any Q v7 (pj ++ putU dl ++ putU on) by_ _ hO9 kwb.1 (by rw [List.length_append, List.length_append]; omega) (by omega)).mono ?_; rintro e wc ⟨v8, rfl, hO10, hP3⟩; have hP3 := hP2.trans hP3; have kwc : Q ≤ wc.heap.size ∧ wc.cell? ⟨K2, 0, none⟩ = some (.int .i32 la) ∧ wc.cell? ⟨K2, 1, none⟩ = some (.int .i64 on) ∧ wc.cell? ⟨K2, 2, none⟩ = some (.int .i64 tt) := ⟨Nat.le_trans hQ7 hP3.1.size, (hP3.1.cell hKl2 (fun h => by have := HO7.out.2.1 K2 h; omega) 0).trans x0, (hP3.1.cell hKl2 (fun h => by have := HO7.out.2.1 K2 h; omega) 1).trans x1, (hP3.1.cell hKl2 (fun h => by have := HO7.out.2.1 K2 h; omega) 2).trans x2⟩))
            have hOa : W.Own wc Q v8 (pre ++ headB ⟨true, (o : Int), A⟩ ++ arcsB k 0 (A.take (j + 1))) := by
              rw [HNA.out.1, show pj ++ (putU dl ++ (putU on ++ putU by_)) = pj ++ putU dl ++ putU on ++ putU by_ by simp]
              exact hO10
            have hwc : Below w.heap.size w wc := HO7.out.2.2.1.trans (put_below hP3 (fun g' h => by rw [hQ]; exact own_far HO7.out.1 g' h) HO7.out.2.2.1.size)
            obtain ⟨va8, vn8, vc8, rfl⟩ := own_form hOa
            have z0 := kwc.2.1
            have HFIN := Lib.hid (show PkLp w Q (.slice va8 vn8 vc8) (pre ++ headB ⟨true, (o : Int), A⟩ ++ arcsB k 0 (A.take (j + 1))) wc from ⟨hOa, hwc⟩)
            clear hOa hwc hO10 hP3 kwc hO9 hP2 kwb hO8 hP1 kwa hT0
            go_wp2_with fail
            exact ⟨⟨j + 1, rfl, by omega, by rw [HNA.out.2], ⟨_, _, _, rfl⟩, HFIN⟩, by simp only [intOf]; omega⟩
          · have hje : j = n := by omega
            have HFIN := Lib.hid (show PkLp w Q (.slice va5 vn5 vc5) (putU b ++ (putU N ++ stsB 0 (S.take (k + 1)))) wr by
              have h1 := HJ.out
              rw [hje, List.take_of_length_le (by rw [HU.out.2.1]; exact Nat.le_refl _), List.append_assoc] at h1
              rw [HNX.out.1]
              exact h1)
            clear HJ
            go_wp2_with fail
            exact ⟨⟨k + 1, rfl, by omega, ⟨_, _, _, rfl⟩, HFIN⟩, by simp only [intOf]; omega⟩
      | false =>
        have e1 : ((2 * n : Nat) : Int) = 2 * (n : Int) := by push_cast; rfl
        have hKl : K < W5.heap.size := HO5.out.2.2.2.1.lt
        have hC1 := put_any Q (.slice va vn vc) pre (2 * n) W5 HO5.out.1 HO5.out.2.2.2.2 (by have := HNX.out.2; omega) (by omega)
        rw [e1] at hC1
        have HC1 := Lib.hid hC1
        clear hC1 e1
        go_wp2_with fail
        refine HC1.out.mono ?_
        rintro e w4 ⟨v4, rfl, hO4, hPT⟩
        have hO4 : W.Own w4 Q v4 (pre ++ headB ⟨false, (o : Int), A⟩) := by
          have e : headB ⟨false, (o : Int), A⟩ = putU (2 * n) := by
            unfold headB
            rw [if_neg (by simp)]
            dsimp only
            rw [HU.out.2.1]
          rw [e]; exact hO4
        clear HC1
        obtain ⟨va4, vn4, vc4, rfl⟩ := own_form hO4
        have bK4 := put_blk hPT HO5.out.2.2.2.1 (fun h => by have := HO5.out.2.1 K h; omega)
        have hw4 : Below w.heap.size w w4 := HO5.out.2.2.1.trans (put_below hPT (fun g' h => by rw [hQ]; exact own_far HO5.out.1 g' h) HO5.out.2.2.1.size)
        have k2 : w4.cell? ⟨K, 2, none⟩ = some (.slice ua n uc) := (Blk.cell bK4 2).trans rfl
        have HST := Lib.hid (show PkLp w Q (.slice va4 vn4 vc4) (pre ++ headB ⟨false, (o : Int), A⟩ ++ arcsB k 0 (A.take 0)) w4 from ⟨by simp only [List.take_zero, arcsB, List.append_nil]; exact hO4, hw4⟩)
        clear hO4 hPT bK4 hw4 k0 k1 hKl
        go_wp2_with fail
        go_loopw [4, 8, 48] (fun x4 x8 x48 wr => ∃ j : Nat, x48 = .int .i64 j ∧ j ≤ n ∧ x8 = .int .i32 (lastL 0 (A.take j)) ∧ (∃ va vn vc, x4 = .slice va vn vc) ∧ Hid (PkLp w Q x4 (pre ++ headB ⟨false, (o : Int), A⟩ ++ arcsB k 0 (A.take j)) wr)) (fun _ _ x48 _ => n - (intOf x48).toNat)
        case atStart => exact ⟨0, rfl, Nat.zero_le _, rfl, ⟨_, _, _, rfl⟩, HST⟩
        case round =>
          clear HST
          obtain ⟨j, rfl, hj, rfl, ⟨va5, vn5, vc5, rfl⟩, HJ⟩ := hrel
          by_cases hjl : (j : Int) < (n : Int)
          · obtain ⟨hu, hn, hg, q5, q6, q4⟩ := HU.out
            clear q4
            obtain ⟨y, hy⟩ : ∃ y, A[j]? = some y := ⟨_, List.getElem?_eq_getElem (by omega)⟩
            obtain ⟨ga, offa, ea, hga, _, hca⟩ := hu.at_ hy
            subst ea
            obtain ⟨lb1, lb2⟩ := q5.le (s := ⟨false, (o : Int), A⟩) (fun a ha => (q6 a ha).1.1) hy
            obtain ⟨⟨y1, y2⟩, ⟨y3, y4⟩, y5, y6⟩ := q6 y (List.mem_of_getElem? hy)
            have hnextA : arcsB k 0 (A.take (j + 1)) = arcsB k 0 (A.take j) ++ arcB k (lastL 0 (A.take j)) y := by rw [take_snoc hy, arcsB_snoc]
            have hlastA : lastL 0 (A.take (j + 1)) = y.label := by rw [take_snoc hy, lastL_snoc]
            dsimp only at lb1 lb2
            obtain ⟨lab, hlab⟩ : ∃ lab, lastL 0 (A.take j) = lab := ⟨_, rfl⟩
            rw [hlab] at hnextA lb1 lb2 ⊢
            have halen : (arcB k lab y).length ≤ 30 := (arcB_len k lab y (by omega) (by omega) (by omega)).1
            have hpl : (pre ++ headB ⟨false, (o : Int), A⟩ ++ arcsB k 0 (A.take j)).length + (arcB k lab y).length ≤ 5000000000000 := by
              have h1 := HNX.out.2
              unfold stB at h1
              dsimp only at h1
              have h2 : arcsB k 0 A = arcsB k 0 (A.take (j + 1)) ++ arcsB k (lastL 0 (A.take (j + 1))) (A.drop (j + 1)) := by
                have := arcsB_append k (A.take (j + 1)) (A.drop (j + 1)) 0
                rw [List.take_append_drop] at this
                exact this
              rw [h2, hnextA] at h1
              simp only [List.length_append] at h1 ⊢
              omega
            obtain ⟨pj, hpj⟩ : ∃ pj, pre ++ headB ⟨false, (o : Int), A⟩ ++ arcsB k 0 (A.take j) = pj := ⟨_, rfl⟩
            have hnxA : pre ++ headB ⟨false, (o : Int), A⟩ ++ arcsB k 0 (A.take (j + 1)) = pj ++ arcB k lab y := by rw [hnextA, ← hpj]; simp
            rw [hpj] at hpl
            obtain ⟨hOj, hbj⟩ := HJ.out
            rw [hpj] at hOj
            obtain ⟨la, ou, tt⟩ := y
            unfold arcB at hnxA halen hpl
            dsimp only at y1 y2 y3 y4 y5 y6 lb2 hnxA hlastA halen hpl
            obtain ⟨dl, hdl⟩ : ∃ dl : Nat, la - lab = (dl : Int) := ⟨(la - lab).toNat, by omega⟩
            obtain ⟨on, rfl⟩ : ∃ on : Nat, ou = (on : Int) := ⟨ou.toNat, by omega⟩
            obtain ⟨by_, hby⟩ : ∃ by_ : Nat, (k : Int) - tt = (by_ : Int) := ⟨((k : Int) - tt).toNat, by omega⟩
            rw [hdl, hby, show ((dl : Nat) : Int).toNat = dl by omega, show ((on : Nat) : Int).toNat = on by omega, show ((by_ : Nat) : Int).toNat = by_ by omega] at hnxA
            have f0 : wr.cell? ⟨ga, offa + j * 3, none⟩ = some (.int .i32 la) := (hbj.cell (p := ⟨ga, offa + j * 3, none⟩) hga).trans (hca 0 (by show 0 < 3; omega))
            have f1 : wr.cell? ⟨ga, offa + j * 3 + 1, none⟩ = some (.int .i64 on) := (hbj.cell (p := ⟨ga, offa + j * 3 + 1, none⟩) hga).trans (hca 1 (by show 1 < 3; omega))
            have f2 : wr.cell? ⟨ga, offa + j * 3 + 2, none⟩ = some (.int .i64 tt) := (hbj.cell (p := ⟨ga, offa + j * 3 + 2, none⟩) hga).trans (hca 2 (by show 2 < 3; omega))
            have hf := three_cells f0 f1 f2
            obtain ⟨K2, hK2⟩ : ∃ K2, wr.heap.size = K2 := ⟨_, rfl⟩
            obtain ⟨W7, hW7⟩ : ∃ W7, wr.alloc (.cells #[.int .i32 la, .int .i64 on, .int .i64 tt] 63) = W7 := ⟨_, rfl⟩
            have hb7 : Below wr.heap.size wr W7 := by rw [← hW7]; exact (Below.refl _ _).alloc (Nat.le_refl _) _
            have bK2 : Blk W7 K2 63 #[.int .i32 la, .int .i64 on, .int .i64 tt] := by rw [← hW7, ← hK2]; exact Blk.alloc_new _ _ _
            have hw7 : Below w.heap.size w W7 := hbj.trans (hb7.mono hbj.size)
            have hO7 : W.Own W7 Q (.slice va5 vn5 vc5) pj := owns_below hOj hb7
            have hvK2 : ∀ g', (Value.slice va5 vn5 vc5).ownBlock = some g' → g' < K2 := fun g' h => by rw [← hK2]; exact own_lt hOj g' h
            have x0 : W7.cell? ⟨K2, 0, none⟩ = some (.int .i32 la) := (Blk.cell bK2 0).trans rfl
            have x1 : W7.cell? ⟨K2, 1, none⟩ = some (.int .i64 on) := (Blk.cell bK2 1).trans rfl
            have x2 : W7.cell? ⟨K2, 2, none⟩ = some (.int .i64 tt) := (Blk.cell bK2 2).trans rfl
            have hQ7 : Q ≤ W7.heap.size := by rw [← hQ]; exact hw7.size
            have hKl2 : K2 < W7.heap.size := bK2.lt
            have hT0 : Q ≤ W7.heap.size ∧ W7.cell? ⟨K2, 0, none⟩ = some (.int .i32 la) ∧ W7.cell? ⟨K2, 1, none⟩ = some (.int .i64 on) ∧ W7.cell? ⟨K2, 2, none⟩ = some (.int .i64 tt) := ⟨hQ7, x0, x1, x2⟩
            have hi1 : IntKind.i32.wrap (la - lab) = (dl : Int) := by rw [← hdl]; exact IntWalk.i32_in _ (by omega)
            have hi3 : IntKind.i64.wrap (dl : Int) = (dl : Int) := IntWalk.i64_in _ (by omega)
            have hi4 : IntKind.i64.wrap ((k : Int) - tt) = (by_ : Int) := by rw [← hby]; exact IntWalk.i64_in _ (by omega)
            have hi2 : wrap64 ((k : Int) - tt) = (by_ : Int) := by rw [← hby]; exact IntWalk.wrap64_in _ (by omega)
            have hdlb : dl ≤ 1114111 := by omega
            have hbyb : by_ ≤ 1000000 := by omega
            have hten1 := putU_ten (n := dl) (by omega)
            have hten2 := putU_ten (n := on) (by omega)
            have hten3 := putU_ten (n := by_) (by omega)
            have hpjl : pj.length ≤ 5000000000000 := by omega
            have HC1 := Lib.hid (show ∀ w', Own0 W7 w' → Calls Tryd.prog 19 #[.slice va5 vn5 vc5, .int .i64 (dl : Int)] w' (PutEnd Q w' (.slice va5 vn5 vc5) (pj ++ putU dl)) from fun w' h =>
              put_any Q (.slice va5 vn5 vc5) pj dl w' (own0 h hO7) (by rw [h.2]; exact hQ7) (by omega) (by omega))
            have HO7 := Lib.hid (And.intro hO7 (And.intro hvK2 (And.intro hw7 bK2)))
            have HNA := Lib.hid (And.intro hnxA hlastA)
            have hj0 : (0 : Int) ≤ (j : Int) := by omega
            clear hu hn hg q5 q6 hy hca hnextA hlastA halen hpl hpj hnxA hOj hbj hdl hby hb7 bK2 hw7 hO7 hvK2 hlab y5 y6
            go_wp2_with fail
            go_region_held3 (fun w' => Q ≤ w'.heap.size ∧ w'.cell? ⟨K2, 0, none⟩ = some (.int .i32 la) ∧ w'.cell? ⟨K2, 1, none⟩ = some (.int .i64 on) ∧ w'.cell? ⟨K2, 2, none⟩ = some (.int .i64 tt)) (first | assumption | (exact ⟨hQ7, x0, x1, x2⟩)) (first
              | (go_at_call 19; refine (HC1.out W7.drew ⟨rfl, rfl⟩).mono ?_; rintro e wa ⟨v6, rfl, hO8, hP1⟩; have hP1 := put_undrew hP1; have kwa : Q ≤ wa.heap.size ∧ wa.cell? ⟨K2, 0, none⟩ = some (.int .i32 la) ∧ wa.cell? ⟨K2, 1, none⟩ = some (.int .i64 on) ∧ wa.cell? ⟨K2, 2, none⟩ = some (.int .i64 tt) := ⟨Nat.le_trans hQ7 hP1.1.size, (hP1.1.cell hKl2 (fun h => by have := HO7.out.2.1 K2 h; omega) 0).trans x0, (hP1.1.cell hKl2 (fun h => by have := HO7.out.2.1 K2 h; omega) 1).trans x1, (hP1.1.cell hKl2 (fun h => by have := HO7.out.2.1 K2 h; omega) 2).trans x2⟩; clear HC1)
              | (go_at_call 19; refine (put_any Q v6 (pj ++ putU dl) on _ hO8 kwa.1 (by rw [List.length_append]; omega) (by omega)).mono ?_; rintro e wb ⟨v7, rfl, hO9, hP2⟩; have hP2 := hP1.trans hP2; have kwb : Q ≤ wb.heap.size ∧ wb.cell? ⟨K2, 0, none⟩ = some (.int .i32 la) ∧ wb.cell? ⟨K2, 1, none⟩ = some (.int .i64 on) ∧ wb.cell? ⟨K2, 2, none⟩ = some (.int .i64 tt) := ⟨Nat.le_trans hQ7 hP2.1.size, (hP2.1.cell hKl2 (fun h => by have := HO7.out.2.1 K2 h; omega) 0).trans x0, (hP2.1.cell hKl2 (fun h => by have := HO7.out.2.1 K2 h; omega) 1).trans x1, (hP2.1.cell hKl2 (fun h => by have := HO7.out.2.1 K2 h; omega) 2).trans x2⟩)
              | (go_at_call 19; refine (put_any Q v7 (pj ++ putU dl ++ putU on) by_ _ hO9 kwb.1 (by rw [List.length_append, List.length_append]; omega) (by omega)).mono ?_; rintro e wc ⟨v8, rfl, hO10, hP3⟩; have hP3 := hP2.trans hP3; have kwc : Q ≤ wc.heap.size ∧ wc.cell? ⟨K2, 0, none⟩ = some (.int .i32 la) ∧ wc.cell? ⟨K2, 1, none⟩ = some (.int .i64 on) ∧ wc.cell? ⟨K2, 2, none⟩ = some (.int .i64 tt) := ⟨Nat.le_trans hQ7 hP3.1.size, (hP3.1.cell hKl2 (fun h => by have := HO7.out.2.1 K2 h; omega) 0).trans x0, (hP3.1.cell hKl2 (fun h => by have := HO7.out.2.1 K2 h; omega) 1).trans x1, (hP3.1.cell hKl2 (fun h => by have := HO7.out.2.1 K2 h; omega) 2).trans x2⟩))
            have hOa : W.Own wc Q v8 (pre ++ headB ⟨false, (o : Int), A⟩ ++ arcsB k 0 (A.take (j + 1))) := by
              rw [HNA.out.1, show pj ++ (putU dl ++ (putU on ++ putU by_)) = pj ++ putU dl ++ putU on ++ putU by_ by simp]
              exact hO10
            have hwc : Below w.heap.size w wc := HO7.out.2.2.1.trans (put_below hP3 (fun g' h => by rw [hQ]; exact own_far HO7.out.1 g' h) HO7.out.2.2.1.size)
            obtain ⟨va8, vn8, vc8, rfl⟩ := own_form hOa
            have z0 := kwc.2.1
            have HFIN := Lib.hid (show PkLp w Q (.slice va8 vn8 vc8) (pre ++ headB ⟨false, (o : Int), A⟩ ++ arcsB k 0 (A.take (j + 1))) wc from ⟨hOa, hwc⟩)
            clear hOa hwc hO10 hP3 kwc hO9 hP2 kwb hO8 hP1 kwa hT0
            go_wp2_with fail
            exact ⟨⟨j + 1, rfl, by omega, by rw [HNA.out.2], ⟨_, _, _, rfl⟩, HFIN⟩, by simp only [intOf]; omega⟩
          · have hje : j = n := by omega
            have HFIN := Lib.hid (show PkLp w Q (.slice va5 vn5 vc5) (putU b ++ (putU N ++ stsB 0 (S.take (k + 1)))) wr by
              have h1 := HJ.out
              rw [hje, List.take_of_length_le (by rw [HU.out.2.1]; exact Nat.le_refl _), List.append_assoc] at h1
              rw [HNX.out.1]
              exact h1)
            clear HJ
            go_wp2_with fail
            exact ⟨⟨k + 1, rfl, by omega, ⟨_, _, _, rfl⟩, HFIN⟩, by simp only [intOf]; omega⟩
    · have hke : k = N := by omega
      subst hke
      have hL := HL.out
      rw [List.take_of_length_le (by rw [HW.out.2.1]; exact Nat.le_refl _)] at hL
      have HFIN := Lib.hid hL
      clear HL hL
      go_wp2_with fail
      go_ret2
      obtain ⟨hO, hbel⟩ := HFIN.out
      have e : packF (b : Int) S = putU b ++ (putU k ++ stsB 0 S) := by
        unfold packF
        rw [HW.out.2.1, show ((b : Nat) : Int).toNat = b by omega]
      have hlen := HW.out.2.2
      unfold PackEnd
      rw [e] at hlen ⊢
      exact ⟨_, rfl, Ints.own hO (by omega), hbel⟩
end Go.Proofs.YtkibkbbjpgomlaaDoor.F
