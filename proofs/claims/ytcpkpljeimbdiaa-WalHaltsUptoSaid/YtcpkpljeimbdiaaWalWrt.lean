/-
  The walk of write.
-/
import Derived.Test.YtcpkpljeimbdiaaWalWr
namespace Go.Proofs.Ytcpkpljeimbdiaa.W
open Go.RowKit
open Aid K
set_option linter.unusedSimpArgs false
set_option linter.unusedVariables false

theorem doE_cases (st : DSt) (a n : Int) (l : List Int) : doE st 0 a n l = 30 ∨ doE st 0 a n l = 31 ∨ doE st 0 a n l = 32 ∨ doE st 0 a n l = 0 := by
  unfold doE
  rw [if_pos rfl]
  repeat' split
  all_goals simp
/-- the loop -/
def WrInv (O Q : Nat → Prop) (g p o : Nat) (s : LSt) (q : Opn) (lv oldv : Value) (w : World) (R : Int) (i : Nat) (T : DSt × Nat × List Int × Int) (wr : World) : Prop :=
  ∃ f st fu r O' Q' rv j, WrAt O Q g p o s q lv oldv w st fu r O' Q' rv wr ∧ T = wrF (4 * q.nu + 1) f st fu r ∧ FitS st R j ∧ j + f ≤ i + 1000 ∧ fu + f ≤ 2000 ∧ r ≠ [] ∧ r.length ≤ f ∧ By8 r
set_option maxRecDepth 100000 in
set_option maxHeartbeats 2000000 in
theorem write_any (O Q : Nat → Prop) (g p : Nat) (s : LSt) (q : Opn) (st : DSt) (R : Int) (i : Nat) (bv : Value) (b : List Int) (w : World) (hW : WalIs O Q w g p s) (hq : s.opn = some q) (hc : s.code = 0) (hD : DiskIs O w p st) (hO : ∀ k, O k → k < w.heap.size)
    (hF : FitS st R i) (hi : i + 1000 ≤ 4398046511103) (hR : R ≤ 9223372036854775807) (hI : Ints w .u8 bv b) (hb : By8 b) (hr : By8 q.rest) (hb1 : b ≠ []) (hbl : b.length ≤ 600) (hrl : q.rest.length ≤ 100) (hfu : q.fu ≤ 1000) (hn0 : 0 ≤ q.nu) (hn1 : q.nu < 2305843009213693952) :
    Calls Try.prog 45 #[.pointer (some ⟨g, 0, none⟩), bv] w (LogEnd O Q g p (wrS s st b).1.code (wrS s st b).1 (wrS s st b).2 w) := by
  obtain ⟨T, hT⟩ : ∃ T, wrF (4 * q.nu + 1) (q.rest.length + b.length) st q.fu (q.rest ++ b) = T := ⟨_, rfl⟩
  have hgoal : wrS s st b = ({ s with opn := some { q with fu := T.2.1, rest := T.2.2.1 }, code := T.2.2.2 }, T.1) := by unfold wrS; rw [hq]; simp only; rw [hT]
  rw [hgoal]
  obtain ⟨ov, lv, oldv, hW⟩ := hW
  have ho := hW.opn
  rw [hq] at ho
  obtain ⟨o, rv, rfl, hB, hqo, hrow, hqr⟩ := ho
  obtain ⟨c0, c1, c2, c3, c4, c5, c6⟩ := blk7 hW.blk
  obtain ⟨d0, d1, d2, d3, f2, f3⟩ := openV_at hB
  obtain ⟨ra, rc, rfl, _, _⟩ := hrow.slice
  have hne : o ≠ g := blk_ne hW.blk hB (by decide)
  have hgl := Blk.lt hW.blk
  have hol := Blk.lt hB
  obtain ⟨iu, hiu, hzu, hsu, hbu⟩ := parts_u8
  obtain ⟨ba, bo, bc, rfl, hbc⟩ : ∃ ba bo bc, bv = .slice (some ⟨ba, bo, none⟩) b.length bc ∧ ∀ j, j < b.length → w.cell? ⟨ba, bo + j, none⟩ = some (.int .u8 (b.getD j 0)) := by
    rcases hI.2 with ⟨h1, _⟩ | ⟨ba, bo, bc, h1, _, h2⟩
    · exact absurd h1 hb1
    · exact ⟨ba, bo, bc, h1, h2⟩
  have HAPP := Lib.hid (show ∀ wx, Below w.heap.size w wx → wx.heap.size = w.heap.size → ∃ v' w', (∀ ty, (Builtin.append_ #[28, 28] ty #[.slice ra q.rest.length rc, .slice (some ⟨ba, bo, none⟩) b.length bc]).run Try.prog wx = .ok v' w') ∧
      OffRow w' 5 1 v' (q.rest ++ b).length ((q.rest ++ b).map (.int .u8)) ∧ Keeps (fun k => (Value.slice ra q.rest.length rc).ownBlock = some k) w w' ∧ (∀ k, v'.ownBlock = some k → (Value.slice ra q.rest.length rc).ownBlock = some k ∨ w.heap.size ≤ k) ∧ w'.cell? ⟨g, 0, none⟩ = some (.pointer (some ⟨o, 0, none⟩)) ∧ w'.cell? ⟨o, 3, none⟩ = some (.slice ra q.rest.length rc) ∧ w'.frozen? ⟨o, 3, none⟩ = false from fun wx hbx hsx => by
    have hrx := hrow.keep (O := fun _ => False) (Keeps.of_below hbx) (fun _ _ h => h)
    obtain ⟨v', w', h1, h2, h3, h4⟩ := run_append_off (P := Try.prog) wx 28 5 iu (.int .u8 0) 1 1 Try.underlying28 hiu hzu hsu hbu rfl (by decide) (by decide) _ _ _ hrx ⟨ba, bo, none⟩ b.length bc (b.map (.int .u8)) (by simp) (fun j u hj => by
      rw [add_any]
      rw [List.getElem?_map] at hj
      cases hbj : b[j]? with
      | none => rw [hbj] at hj; cases hj
      | some x =>
        rw [hbj] at hj; cases hj
        have hjl := (List.getElem?_eq_some_iff.1 hbj).1
        have hcell := hbc j hjl
        rw [List.getD_eq_getElem?_getD, hbj] at hcell
        have hbal : ba < w.heap.size := World.block_lt_of_cell? w _ hcell
        exact (hbx.cell (p := ⟨ba, bo + j, none⟩) hbal).trans hcell) (fun u hu => by obtain ⟨x, _, rfl⟩ := List.mem_map.1 hu; rfl) (by unfold maxLen; omega) (by omega)
    have hK : Keeps (fun k => (Value.slice ra q.rest.length rc).ownBlock = some k) w w' := (Keeps.of_below hbx).trans h3 (fun x hx => .inl hx)
    have hB' := blk_keep hB hK (fun hk => offrow_ne hB hrow (by decide) o hk rfl)
    refine ⟨v', w', h1, ?_, hK, fun k hk => ?_, ?_, hB'.cell 3, hB'.free 3⟩
    · rw [List.length_append, List.map_append]; exact h2
    · rcases h4 k hk with h | h
      · exact .inl h
      · exact .inr (by omega)
    · exact (hK.cell (p := ⟨g, 0, none⟩) hgl (fun hk => offrow_ne hW.blk hrow (by decide) g hk rfl)).trans c0)
  have hW0 := Lib.hid hW
  have hB0 := Lib.hid hB
  have hR0 := Lib.hid hrow
  have hQR := Lib.hid hqr
  clear hW hB hrow hqr hI hbc
  go_enter Try.func45, Try.ntmps45
  go_wp2_with fail
  refine' wp_cut2 (α := Option Addr) (β := Nat) _ (fun a1 k1 w' => ∃ w1, w' = w1.setCell ⟨o, 3, none⟩ (.slice a1 (q.rest.length + b.length) k1) ∧ Hid (OffRow w1 5 1 (.slice a1 (q.rest ++ b).length k1) (q.rest ++ b).length ((q.rest ++ b).map (.int .u8)) ∧ Keeps (fun k => (Value.slice ra q.rest.length rc).ownBlock = some k) w w1 ∧ (∀ k, (Value.slice a1 (q.rest ++ b).length k1).ownBlock = some k → (Value.slice ra q.rest.length rc).ownBlock = some k ∨ w.heap.size ≤ k))) ?reg ?imp
  case reg =>
    go_region_law
      (obtain ⟨v1, w1, hrun1, hoff1, hK1, hown1, hg1, ho1, hf1⟩ := HAPP.out _ (Below.refl _ _).drew rfl
       obtain ⟨a1, k1, rfl, hk1, hz1⟩ := hoff1.slice
       refine step_append_off rfl (.tmp 17) (.tmp 18) 28 rfl _ _ w1 ⟨ba, bo, none⟩ b.length bc rfl rfl hrun1 ?_
       have HW1 := Lib.hid (And.intro hoff1 (And.intro hK1 hown1))
       clear hoff1 hK1 hown1 hrun1)
    all_goals
      refine ⟨rfl, a1, k1, ?_, w1, rfl, HW1⟩
      exact Eq.refl _
  case imp =>
    rintro a1 k1 w' ⟨w1, rfl, HW1⟩
    have hst : WrInv O Q g p o s q lv oldv w R i T (w1.setCell ⟨o, 3, none⟩ (.slice a1 (q.rest.length + b.length) k1)) := by
      obtain ⟨h1, h2, h3⟩ := HW1.out
      have hs := WrAt.start hW0.out hO hD hB0.out hqo hR0.out hQR.out h1 h2 h3
      rw [List.length_append] at hs
      refine ⟨_, st, q.fu, _, _, _, _, i, hs, hT.symm, hF, by omega, by omega, fun e => hb1 (List.append_eq_nil_iff.1 e).2, by rw [List.length_append]; exact Nat.le_refl _, fun x hx => ?_⟩
      rcases List.mem_append.1 hx with hx | hx
      · exact hr x hx
      · exact hb x hx
    have HST := Lib.hid hst
    have HC := Lib.hid hc
    clear hc
    clear HW1 hW0 hB0 hR0 hQR HAPP hT hF hb hr c0 c1 c2 c3 c4 c5 c6 d0 d1 d2 d3 f2 f3 hst hO hD hgoal hq hb1 hbl hrl hfu hqo hol hgl
    go_wp2_with fail
    go_loopw [] (fun wr => WrInv O Q g p o s q lv oldv w R i T wr) (fun wr => msrO o wr)
    case atStart => exact HST.out
    case round =>
      clear HST
      obtain ⟨f, stj, fuj, rj, Oj, Qj, rvj, ij, hAt, hTe, hFj, hj1, hj2, hjne, hjf, hjby⟩ := hrel
      have hlr : 1 ≤ rj.length := List.length_pos_iff.2 hjne
      obtain ⟨f, rfl⟩ : ∃ f', f = f' + 1 := ⟨f - 1, by omega⟩
      obtain ⟨ja, jc, rfl, hjc, hjz⟩ := hAt.row.slice
      have hIj := offrow_ints hAt.row (by omega)
      obtain ⟨jb, jo, rfl, hjb, _⟩ := hIj.at_ (k := 0) hlr rfl
      obtain ⟨c0, c1, c2, c3, c4, c5, c6⟩ := blk7 hAt.wal.blk
      obtain ⟨d0, d1, d2, d3, f2, f3⟩ := openV_at hAt.blk
      obtain ⟨N, hN⟩ : ∃ N, rj.length = N := ⟨_, rfl⟩
      have hgl : g < wr.heap.size := Blk.lt hAt.wal.blk
      have hol : o < wr.heap.size := Blk.lt hAt.blk
      have hbA : ∀ (x : Obj), Below wr.heap.size wr (wr.alloc x) := fun x => (Below.refl _ _).alloc (Nat.le_refl _) x
      have x0 : ∀ (x : Obj), (wr.alloc x).cell? ⟨g, 0, none⟩ = some (.pointer (some ⟨o, 0, none⟩)) := fun x => ((hbA x).cell (p := ⟨g, 0, none⟩) hgl).trans c0
      have x3 : ∀ (x : Obj), (wr.alloc x).cell? ⟨o, 3, none⟩ = some (.slice (some ⟨jb, jo, none⟩) N jc) := fun x => ((hbA x).cell (p := ⟨o, 3, none⟩) hol).trans (hN ▸ d3)
      obtain ⟨u, hu⟩ : ∃ u, min N 63 = u := ⟨_, rfl⟩
      have hmin : (if (63 : Int) < (N : Int) then (63 : Int) else (N : Int)) = (u : Int) := by split <;> omega
      have hu1 : u ≤ 63 := by omega
      have hu2 : u ≤ N := by omega
      have hu3 : 1 ≤ u := by omega
      have hI3 := ints_take hIj (k := u) (by omega)
      have HI3 := Lib.hid hI3
      have HAT := Lib.hid hAt
      have HTE := Lib.hid hTe
      have HFJ := Lib.hid hFj
      have HBY := Lib.hid hjby
      rw [hN] at hjc d3
      have HN := Lib.hid hN
      have HU := Lib.hid hu
      have hown1 : (wr.alloc (.cells #[.int .u8 (u : Int)] 5)).ownsRow wr.heap.size 5 1 (.slice (some ⟨wr.heap.size, 0, none⟩) 1 1) 1 [.int .u8 (u : Int)] := ⟨rfl, .inr ⟨wr.heap.size, 1, #[.int .u8 (u : Int)], rfl, Nat.le_refl _, Blk.alloc_new _ _ _, Nat.le_refl _, by unfold maxLen; omega, rfl, rfl⟩⟩
      have HO1 := Lib.hid hown1
      have HI4 := Lib.hid (HI3.out.below (hbA (.cells #[.int .u8 (u : Int)] 5)))
      have hul : (rj.take u).length = u := by rw [List.length_take]; omega
      have hua : wr.heap.size ≤ (wr.alloc (.cells #[.int .u8 (u : Int)] 5)).heap.size := by simp
      clear hown1 hI3 hAt hTe hFj hjby hIj hN hu hjne hjz
      go_wp2_with (at_builtin; refine wpList_append_ints _ (by rfl) _ _ 28 rfl wr.heap.size 5 iu (.int .u8 0) 1 Try.underlying28 hiu hzu hsu hbu rfl .u8 _ _ _ rfl HO1.out _ (rj.take u) rfl HI4.out (by rw [hul]; unfold maxLen; omega) (by omega) hua ?_; intro v4 w4 hown4 hb4)
      have hbW : Below wr.heap.size wr w4 := (hbA _).trans hb4
      have hA4 := HAT.out.below hbW
      have hB4 := hA4.wal.blk
      have hc0 : s.code = 0 := HC.out
      change Blk w4 g 77 (walV (.pointer (some ⟨o, 0, none⟩)) p s.first lv oldv s.next s.code) at hB4
      rw [hc0] at hB4
      obtain ⟨y0, y1, _, _, _, _, y6⟩ := blk7 hB4
      obtain ⟨y2, _, y3, y4, y5, y7⟩ := openV_at hA4.blk
      have hgl4 : g < w4.heap.size := Blk.lt hB4
      have hol4 : o < w4.heap.size := Blk.lt hA4.blk
      have hgo : ¬ Oj g := hA4.wal.apart g hA4.wal.qg
      have hoo : ¬ Oj o := hA4.wal.apart o hA4.qo
      have hsec : [Value.int .u8 (u : Int)] ++ (rj.take u).map (.int .u8) = (secW rj).map (.int .u8) := by
        have e1 : min rj.length 63 = u := by rw [HN.out]; exact HU.out
        have e2 : rj.take u = rj.take 63 := by
          by_cases h63 : rj.length ≤ 63
          · rw [List.take_of_length_le h63, List.take_of_length_le (by omega)]
          · rw [show u = 63 by omega]
        unfold secW
        rw [e1, e2]; rfl
      have hsl : 1 + (rj.take u).length = (secW rj).length := by
        have := congrArg List.length hsec
        simpa [Nat.add_comm] using this
      rw [hsec, hsl] at hown4
      have hI5 : Ints w4 .u8 v4 (secW rj) := Ints.own hown4 (by have := secW_len rj; omega)
      have hvb : ∀ bb oo n c, v4 = .slice (some ⟨bb, oo, none⟩) n c → n ≠ 0 → ¬ Oj bb := fun bb oo n c e _ ho => by
        have h1 := HAT.out.olt bb ho
        rcases hown4.2 with ⟨e2, _⟩ | ⟨g', cap, cur, e2, h2, _⟩
        · rw [e2] at e; cases e
        · rw [e2] at e
          simp only [Value.slice.injEq, Option.some.injEq, Addr.mk.injEq] at e
          omega
      have HAR := Lib.hid (show ∀ w', Calls Try.prog 50 #[.int .u64 q.nu] w' fun e w2 => e = .returned (.int .u64 (4 * q.nu + 1)) ∧ w2 = w' from fun w' => area_any q.nu w' hn0 (by omega))
      have HWC := Lib.hid (show ∀ w', Below w4.heap.size w4 w' → w'.heap.size = w4.heap.size → Calls Try.prog 9 #[.pointer (some ⟨p, 0, none⟩), .int .u64 (4 * q.nu + 1), .int .i64 fuj, v4] w' (DoEnd Oj p (doE stj 0 (4 * q.nu + 1) fuj (secW rj)) (doS stj 0 (4 * q.nu + 1) fuj (secW rj)) w') from fun w' hb hs =>
        write_do Oj p stj R ij (4 * q.nu + 1) fuj v4 (secW rj) w' (hA4.disk.below hb) (fun k hk => by have := hA4.olt k hk; omega) HFJ.out (by omega) hR (hI5.below hb) hvb (secW_by HBY.out) (wf_u64 (by omega) (by omega)) (wf_i64 (by omega) (by omega)))
      obtain ⟨E, hE⟩ : ∃ E, doE stj 0 (4 * q.nu + 1) fuj (secW rj) = E := ⟨_, rfl⟩
      obtain ⟨st', hst'⟩ : ∃ st', doS stj 0 (4 * q.nu + 1) fuj (secW rj) = st' := ⟨_, rfl⟩
      rw [hE, hst'] at HWC
      have HB4 := Lib.hid hB4
      have HA4 := Lib.hid hA4
      have HES := Lib.hid (And.intro hE hst')
      obtain ⟨va4, vc4, rfl⟩ := hI5.form
      have hcase : E ≠ 0 ∨ (E = 0 ∧ (u : Int) < 63) ∨ (E = 0 ∧ ¬ (u : Int) < 63) := by omega
      clear hown4 hb4 hbW hA4 hB4 hsec hsl hI5 hvb hE hst' HO1 HI4 HI3 hbA x0 x3 c0 c1 c2 c3 c4 c5 c6 d0 d1 d2 d3 f2 f3 hc0 hmin hul hua hgl hol
      have hS0 : w4.cell? ⟨g, 0, none⟩ = some (.pointer (some ⟨o, 0, none⟩)) ∧ w4.cell? ⟨g, 1, none⟩ = some (.pointer (some ⟨p, 0, none⟩)) ∧ w4.cell? ⟨o, 0, none⟩ = some (.int .u64 q.nu) ∧ w4.cell? ⟨o, 2, none⟩ = some (.int .i64 fuj) := ⟨y0, y1, y2, y3⟩
      rcases hcase with hE0 | ⟨hE0, h63⟩ | ⟨hE0, h63⟩
      · have hE1 : (E == 0) = false := by simpa using hE0
        have hE2 : (E != 0) = true := by simpa using hE0
        refine wp_region_noPanic ?_
        refine wp_region_held_drew (S := fun w' => w'.cell? ⟨g, 0, none⟩ = some (.pointer (some ⟨o, 0, none⟩)) ∧ w'.cell? ⟨g, 1, none⟩ = some (.pointer (some ⟨p, 0, none⟩)) ∧ w'.cell? ⟨o, 0, none⟩ = some (.int .u64 q.nu) ∧ w'.cell? ⟨o, 2, none⟩ = some (.int .i64 fuj)) (by kernel_rfl) hS0 (fun hHeld => ?_)
        refine wpAnyH_take (i := 0) (v := .pointer (some ⟨g, 0, none⟩)) rfl (by kernel_rfl) (by kernel_rfl) (by kernel_rfl) (fun _ _ _ h => h) (.inl ⟨by rfl, by intro w hSw; go_simp⟩) hHeld ?_
        simp only [Act.put, List.getElem_toArray, List.getElem_cons_succ, List.getElem_cons_zero, List.setIfInBounds_toArray, List.set_cons_zero, List.set_cons_succ]
        refine wpAnyH_take (i := 1) (v := .pointer (some ⟨g, 0, none⟩)) rfl (by kernel_rfl) (by kernel_rfl) (by kernel_rfl) (fun _ _ _ h => h) (.inl ⟨by rfl, by intro w hSw; go_simp⟩) hHeld ?_
        simp only [Act.put, List.getElem_toArray, List.getElem_cons_succ, List.getElem_cons_zero, List.setIfInBounds_toArray, List.set_cons_zero, List.set_cons_succ]
        refine wpAnyH_take (i := 2) (v := .pointer (some ⟨g, 0, none⟩)) rfl (by kernel_rfl) (by kernel_rfl) (by kernel_rfl) (fun _ _ _ h => h) (.inl ⟨by rfl, by intro w hSw; go_simp⟩) hHeld ?_
        simp only [Act.put, List.getElem_toArray, List.getElem_cons_succ, List.getElem_cons_zero, List.setIfInBounds_toArray, List.set_cons_zero, List.set_cons_succ]
        refine wpAnyH_take (i := 3) (v := .pointer (some ⟨g, 1, none⟩)) rfl (by kernel_rfl) (by kernel_rfl) (by kernel_rfl) (fun _ _ _ h => h) (.inl ⟨by rfl, by intro w hSw; go_simp⟩) hHeld ?_
        simp only [Act.put, List.getElem_toArray, List.getElem_cons_succ, List.getElem_cons_zero, List.setIfInBounds_toArray, List.set_cons_zero, List.set_cons_succ]
        refine wpAnyH_take (i := 4) (v := .pointer (some ⟨p, 0, none⟩)) rfl (by kernel_rfl) (by kernel_rfl) (by kernel_rfl) (fun _ _ _ h => h) (.inl ⟨by rfl, by intro w hSw; obtain ⟨hx0, hx1, hx2, hx3⟩ := hSw; go_simp⟩) hHeld ?_
        simp only [Act.put, List.getElem_toArray, List.getElem_cons_succ, List.getElem_cons_zero, List.setIfInBounds_toArray, List.set_cons_zero, List.set_cons_succ]
        refine wpAnyH_take (i := 5) (v := .pointer (some ⟨g, 0, none⟩)) rfl (by kernel_rfl) (by kernel_rfl) (by kernel_rfl) (fun _ _ _ h => h) (.inl ⟨by rfl, by intro w hSw; go_simp⟩) hHeld ?_
        simp only [Act.put, List.getElem_toArray, List.getElem_cons_succ, List.getElem_cons_zero, List.setIfInBounds_toArray, List.set_cons_zero, List.set_cons_succ]
        refine wpAnyH_take (i := 6) (v := .pointer (some ⟨g, 0, none⟩)) rfl (by kernel_rfl) (by kernel_rfl) (by kernel_rfl) (fun _ _ _ h => h) (.inl ⟨by rfl, by intro w hSw; go_simp⟩) hHeld ?_
        simp only [Act.put, List.getElem_toArray, List.getElem_cons_succ, List.getElem_cons_zero, List.setIfInBounds_toArray, List.set_cons_zero, List.set_cons_succ]
        refine wpAnyH_take (i := 7) (v := .pointer (some ⟨g, 0, none⟩)) rfl (by kernel_rfl) (by kernel_rfl) (by kernel_rfl) (fun _ _ _ h => h) (.inl ⟨by rfl, by intro w hSw; go_simp⟩) hHeld ?_
        simp only [Act.put, List.getElem_toArray, List.getElem_cons_succ, List.getElem_cons_zero, List.setIfInBounds_toArray, List.set_cons_zero, List.set_cons_succ]
        refine wpAnyH_take (i := 8) (v := .pointer (some ⟨o, 0, none⟩)) rfl (by kernel_rfl) (by kernel_rfl) (by kernel_rfl) (fun _ _ _ h => h) (.inl ⟨by rfl, by intro w hSw; obtain ⟨hx0, hx1, hx2, hx3⟩ := hSw; go_simp⟩) hHeld ?_
        simp only [Act.put, List.getElem_toArray, List.getElem_cons_succ, List.getElem_cons_zero, List.setIfInBounds_toArray, List.set_cons_zero, List.set_cons_succ]
        refine wpAnyH_take (i := 9) (v := .pointer (some ⟨o, 0, none⟩)) rfl (by kernel_rfl) (by kernel_rfl) (by kernel_rfl) (fun _ _ _ h => h) (.inl ⟨by rfl, by intro w hSw; go_simp⟩) hHeld ?_
        simp only [Act.put, List.getElem_toArray, List.getElem_cons_succ, List.getElem_cons_zero, List.setIfInBounds_toArray, List.set_cons_zero, List.set_cons_succ]
        refine wpAnyH_take (i := 10) (v := .pointer (some ⟨o, 0, none⟩)) rfl (by kernel_rfl) (by kernel_rfl) (by kernel_rfl) (fun _ _ _ h => h) (.inl ⟨by rfl, by intro w hSw; go_simp⟩) hHeld ?_
        simp only [Act.put, List.getElem_toArray, List.getElem_cons_succ, List.getElem_cons_zero, List.setIfInBounds_toArray, List.set_cons_zero, List.set_cons_succ]
        refine wpAnyH_take (i := 11) (v := .pointer (some ⟨o, 0, none⟩)) rfl (by kernel_rfl) (by kernel_rfl) (by kernel_rfl) (fun _ _ _ h => h) (.inl ⟨by rfl, by intro w hSw; go_simp⟩) hHeld ?_
        simp only [Act.put, List.getElem_toArray, List.getElem_cons_succ, List.getElem_cons_zero, List.setIfInBounds_toArray, List.set_cons_zero, List.set_cons_succ]
        refine wpAnyH_take (i := 12) (v := .int .u64 q.nu) rfl (by kernel_rfl) (by kernel_rfl) (by kernel_rfl) (fun _ _ _ h => h) (.inl ⟨by rfl, by intro w hSw; obtain ⟨hx0, hx1, hx2, hx3⟩ := hSw; go_simp⟩) hHeld ?_
        simp only [Act.put, List.getElem_toArray, List.getElem_cons_succ, List.getElem_cons_zero, List.setIfInBounds_toArray, List.set_cons_zero, List.set_cons_succ]
        refine wpAnyH_take (i := 14) (v := .pointer (some ⟨g, 0, none⟩)) rfl (by kernel_rfl) (by kernel_rfl) (by kernel_rfl) (fun _ _ _ h => h) (.inl ⟨by rfl, by intro w hSw; go_simp⟩) hHeld ?_
        simp only [Act.put, List.getElem_toArray, List.getElem_cons_succ, List.getElem_cons_zero, List.setIfInBounds_toArray, List.set_cons_zero, List.set_cons_succ]
        refine wpAnyH_take (i := 15) (v := .pointer (some ⟨g, 0, none⟩)) rfl (by kernel_rfl) (by kernel_rfl) (by kernel_rfl) (fun _ _ _ h => h) (.inl ⟨by rfl, by intro w hSw; go_simp⟩) hHeld ?_
        simp only [Act.put, List.getElem_toArray, List.getElem_cons_succ, List.getElem_cons_zero, List.setIfInBounds_toArray, List.set_cons_zero, List.set_cons_succ]
        refine wpAnyH_take (i := 16) (v := .pointer (some ⟨g, 0, none⟩)) rfl (by kernel_rfl) (by kernel_rfl) (by kernel_rfl) (fun _ _ _ h => h) (.inl ⟨by rfl, by intro w hSw; go_simp⟩) hHeld ?_
        simp only [Act.put, List.getElem_toArray, List.getElem_cons_succ, List.getElem_cons_zero, List.setIfInBounds_toArray, List.set_cons_zero, List.set_cons_succ]
        refine wpAnyH_take (i := 17) (v := .pointer (some ⟨o, 0, none⟩)) rfl (by kernel_rfl) (by kernel_rfl) (by kernel_rfl) (fun _ _ _ h => h) (.inl ⟨by rfl, by intro w hSw; obtain ⟨hx0, hx1, hx2, hx3⟩ := hSw; go_simp⟩) hHeld ?_
        simp only [Act.put, List.getElem_toArray, List.getElem_cons_succ, List.getElem_cons_zero, List.setIfInBounds_toArray, List.set_cons_zero, List.set_cons_succ]
        refine wpAnyH_take (i := 18) (v := .pointer (some ⟨o, 0, none⟩)) rfl (by kernel_rfl) (by kernel_rfl) (by kernel_rfl) (fun _ _ _ h => h) (.inl ⟨by rfl, by intro w hSw; go_simp⟩) hHeld ?_
        simp only [Act.put, List.getElem_toArray, List.getElem_cons_succ, List.getElem_cons_zero, List.setIfInBounds_toArray, List.set_cons_zero, List.set_cons_succ]
        refine wpAnyH_take (i := 19) (v := .pointer (some ⟨o, 2, none⟩)) rfl (by kernel_rfl) (by kernel_rfl) (by kernel_rfl) (fun _ _ _ h => h) (.inl ⟨by rfl, by intro w hSw; go_simp⟩) hHeld ?_
        simp only [Act.put, List.getElem_toArray, List.getElem_cons_succ, List.getElem_cons_zero, List.setIfInBounds_toArray, List.set_cons_zero, List.set_cons_succ]
        refine wpAnyH_take (i := 20) (v := .int .i64 fuj) rfl (by kernel_rfl) (by kernel_rfl) (by kernel_rfl) (fun _ _ _ h => h) (.inl ⟨by rfl, by intro w hSw; obtain ⟨hx0, hx1, hx2, hx3⟩ := hSw; go_simp⟩) hHeld ?_
        simp only [Act.put, List.getElem_toArray, List.getElem_cons_succ, List.getElem_cons_zero, List.setIfInBounds_toArray, List.set_cons_zero, List.set_cons_succ]
        refine wpAnyH_take (i := 21) (v := .slice va4 (secW rj).length vc4) rfl (by kernel_rfl) (by kernel_rfl) (by kernel_rfl) (fun _ _ _ h => h) (.inl ⟨by rfl, by intro w hSw; go_simp⟩) hHeld ?_
        simp only [Act.put, List.getElem_toArray, List.getElem_cons_succ, List.getElem_cons_zero, List.setIfInBounds_toArray, List.set_cons_zero, List.set_cons_succ]
        refine wpAnyH_ready (rs := [13]) (by kernel_rfl) (by simp) ?_
        refine AllReadyH.cons rfl (fun K hK => ?_) AllReadyH.nil
        go_simp
        (go_at_call 50; refine (HAR.out _).mono ?_; rintro e wz ⟨rfl, rfl⟩)
        try go_wp2_with fail
        refine hK.out _ _ hS0 (fun hHeld => ?_)
        clear hK K
        try simp only [Act.put, List.getElem_toArray, List.getElem_cons_succ, List.getElem_cons_zero, List.setIfInBounds_toArray, List.set_cons_zero, List.set_cons_succ]
        refine wpAnyH_ready (rs := [22]) (by kernel_rfl) (by simp) ?_
        refine AllReadyH.cons rfl (fun K hK => ?_) AllReadyH.nil
        go_simp
        (go_at_call 9; refine (HWC.out _ (Below.refl _ _).drew rfl).mono ?_; rintro e wz ⟨rfl, hKD, O', hD', hO'⟩)
        try go_wp2_with fail
        have hBz : Blk wz g 77 (walV (.pointer (some ⟨o, 0, none⟩)) p s.first lv oldv s.next 0) := (hKD.block g hgl4 hgo).trans HB4.out
        have hSz : wz.cell? ⟨g, 0, none⟩ = some (.pointer (some ⟨o, 0, none⟩)) ∧ wz.cell? ⟨g, 1, none⟩ = some (.pointer (some ⟨p, 0, none⟩)) ∧ wz.cell? ⟨o, 0, none⟩ = some (.int .u64 q.nu) ∧ wz.cell? ⟨o, 2, none⟩ = some (.int .i64 fuj) := ⟨hBz.cell 0, hBz.cell 1, (hKD.cell (p := ⟨o, 0, none⟩) hol4 hoo).trans y2, (hKD.cell (p := ⟨o, 2, none⟩) hol4 hoo).trans y3⟩
        have HSZ := Lib.hid (And.intro hKD (And.intro hD' (And.intro hO' hBz)))
        refine hK.out _ _ hSz (fun hHeld => ?_)
        clear hK K
        try simp only [Act.put, List.getElem_toArray, List.getElem_cons_succ, List.getElem_cons_zero, List.setIfInBounds_toArray, List.set_cons_zero, List.set_cons_succ]
        refine wpAnyH_ready (rs := [23]) (by kernel_rfl) (by simp) ?_
        refine AllReadyH.cons rfl (fun K hK => ?_) AllReadyH.nil
        go_simp
        (go_at_call 49; refine (did_any g _ p s.first lv oldv s.next 0 _ _ HSZ.out.2.2.2).mono ?_; rintro e w9 ⟨rfl, hB9, hK9, hs9⟩)
        try go_wp2_with fail
        have hS9 : w9.cell? ⟨g, 0, none⟩ = some (.pointer (some ⟨o, 0, none⟩)) ∧ w9.cell? ⟨g, 1, none⟩ = some (.pointer (some ⟨p, 0, none⟩)) ∧ w9.cell? ⟨o, 0, none⟩ = some (.int .u64 q.nu) ∧ w9.cell? ⟨o, 2, none⟩ = some (.int .i64 fuj) := ⟨hB9.cell 0, hB9.cell 1, (hK9.cell (p := ⟨o, 0, none⟩) (Nat.lt_of_lt_of_le hol4 HSZ.out.1.size) hne).trans hSz.2.2.1, (hK9.cell (p := ⟨o, 2, none⟩) (Nat.lt_of_lt_of_le hol4 HSZ.out.1.size) hne).trans hSz.2.2.2⟩
        have HB9 := Lib.hid (And.intro hB9 (And.intro hK9 hs9))
        clear hB9 hK9 hs9
        refine hK.out _ _ hS9 (fun hHeld => ?_)
        clear hK K
        try simp only [Act.put, List.getElem_toArray, List.getElem_cons_succ, List.getElem_cons_zero, List.setIfInBounds_toArray, List.set_cons_zero, List.set_cons_succ]
        refine wpAnyH_take (i := 24) (v := .bool true) rfl (by kernel_rfl) (by kernel_rfl) (by kernel_rfl) (fun _ _ _ h => h) (.inl ⟨by rfl, by intro w hSw; go_simp⟩) hHeld ?_
        simp only [Act.put, List.getElem_toArray, List.getElem_cons_succ, List.getElem_cons_zero, List.setIfInBounds_toArray, List.set_cons_zero, List.set_cons_succ]
        refine wpAnyH_take (i := 25) (v := .bool true) rfl (by kernel_rfl) (by kernel_rfl) (by kernel_rfl) (fun _ _ _ h => h) (.inl ⟨by rfl, by intro w hSw; go_simp⟩) hHeld ?_
        simp only [Act.put, List.getElem_toArray, List.getElem_cons_succ, List.getElem_cons_zero, List.setIfInBounds_toArray, List.set_cons_zero, List.set_cons_succ]
        refine wpAnyH_take (i := 26) (v := undef) rfl (by kernel_rfl) (by kernel_rfl) (by kernel_rfl) (fun _ _ _ h => h) (.inr ⟨by rfl, rfl⟩) hHeld ?_
        simp only [Act.put, List.getElem_toArray, List.getElem_cons_succ, List.getElem_cons_zero, List.setIfInBounds_toArray, List.set_cons_zero, List.set_cons_succ]
        refine wpAnyH_take (i := 27) (v := undef) rfl (by kernel_rfl) (by kernel_rfl) (by kernel_rfl) (fun _ _ _ h => h) (.inr ⟨by rfl, rfl⟩) hHeld ?_
        simp only [Act.put, List.getElem_toArray, List.getElem_cons_succ, List.getElem_cons_zero, List.setIfInBounds_toArray, List.set_cons_zero, List.set_cons_succ]
        refine wpAnyH_take (i := 28) (v := .bool true) rfl (by kernel_rfl) (by kernel_rfl) (by kernel_rfl) (fun _ _ _ h => h) (.inl ⟨by rfl, by intro w hSw; go_simp⟩) hHeld ?_
        simp only [Act.put, List.getElem_toArray, List.getElem_cons_succ, List.getElem_cons_zero, List.setIfInBounds_toArray, List.set_cons_zero, List.set_cons_succ]
        refine wpAnyH_done (by kernel_rfl) ?_ _
        refine NoPanic.normal ?_
        have HALL := Lib.hid (And.intro HSZ.out HB9.out)
        clear HSZ HB9 hKD hD' hO' hBz hSz hS9
        obtain ⟨⟨hK, hD', hO', hBz⟩, hB9, hK9, hs9⟩ := HALL.out
        simp only [if_true] at hB9
        have hA9 := (HA4.out.below (Below.refl _ _).drew).call hK hD' hO' hB9 hK9 hs9
        have z6 := (blk7 hB9).2.2.2.2.2.2
        have HA9 := Lib.hid hA9
        clear HALL hK hD' hO' hBz hB9 hK9 hs9 hA9
        go_wp2_with fail
        go_ret
        have ht : T = (st', fuj, rj, E) := by
          rw [HTE.out, wrF, HES.out.1, HES.out.2, if_pos (.inl hE0)]
        rw [ht]
        exact ⟨rfl, O', Qj, HA9.out.log⟩
      · subst hE0
        first
        | skip
          go_region_held3 (fun w' => w'.cell? ⟨g, 0, none⟩ = some (.pointer (some ⟨o, 0, none⟩)) ∧ w'.cell? ⟨g, 1, none⟩ = some (.pointer (some ⟨p, 0, none⟩)) ∧ w'.cell? ⟨o, 0, none⟩ = some (.int .u64 q.nu) ∧ w'.cell? ⟨o, 2, none⟩ = some (.int .i64 fuj)) (first | assumption) (first
          | (go_at_call 50; refine (HAR.out _).mono ?_; rintro e wz ⟨rfl, rfl⟩)
          | (go_at_call 9
             refine (HWC.out _ (Below.refl _ _).drew rfl).mono ?_
             rintro e wz ⟨rfl, hK, O', hD', hO'⟩
             have hBz : Blk wz g 77 (walV (.pointer (some ⟨o, 0, none⟩)) p s.first lv oldv s.next 0) := (hK.block g hgl4 hgo).trans HB4.out
             have hSz : wz.cell? ⟨g, 0, none⟩ = some (.pointer (some ⟨o, 0, none⟩)) ∧ wz.cell? ⟨g, 1, none⟩ = some (.pointer (some ⟨p, 0, none⟩)) ∧ wz.cell? ⟨o, 0, none⟩ = some (.int .u64 q.nu) ∧ wz.cell? ⟨o, 2, none⟩ = some (.int .i64 fuj) := ⟨hBz.cell 0, hBz.cell 1, (hK.cell (p := ⟨o, 0, none⟩) hol4 hoo).trans y2, (hK.cell (p := ⟨o, 2, none⟩) hol4 hoo).trans y3⟩
             have HSZ := Lib.hid (And.intro hK (And.intro hD' (And.intro hO' hBz))))
          | (go_at_call 49
             refine (did_any g _ p s.first lv oldv s.next 0 _ _ HSZ.out.2.2.2).mono ?_
             rintro e w9 ⟨rfl, hB9, hK9, hs9⟩
             have hS9 : w9.cell? ⟨g, 0, none⟩ = some (.pointer (some ⟨o, 0, none⟩)) ∧ w9.cell? ⟨g, 1, none⟩ = some (.pointer (some ⟨p, 0, none⟩)) ∧ w9.cell? ⟨o, 0, none⟩ = some (.int .u64 q.nu) ∧ w9.cell? ⟨o, 2, none⟩ = some (.int .i64 fuj) := ⟨hB9.cell 0, hB9.cell 1, (hK9.cell (p := ⟨o, 0, none⟩) (Nat.lt_of_lt_of_le hol4 HSZ.out.1.size) hne).trans hSz.2.2.1, (hK9.cell (p := ⟨o, 2, none⟩) (Nat.lt_of_lt_of_le hol4 HSZ.out.1.size) hne).trans hSz.2.2.2⟩
             have HB9 := Lib.hid (And.intro hB9 (And.intro hK9 hs9))
             clear hB9 hK9 hs9))
        | fail "region"
        all_goals
          have HALL := Lib.hid (And.intro HSZ.out HB9.out)
          clear HSZ HB9 hK hD' hO' hBz hSz hS9
          obtain ⟨⟨hK, hD', hO', hBz⟩, hB9, hK9, hs9⟩ := HALL.out
          simp only [if_true] at hB9
          have hA9 := (HA4.out.below (Below.refl _ _).drew).call hK hD' hO' hB9 hK9 hs9
          have z6 := (blk7 hB9).2.2.2.2.2.2
          have HA9 := Lib.hid hA9
          clear HALL hK hD' hO' hBz hB9 hK9 hs9 hA9
          go_wp2_with fail
          go_ret
          have ht : T = (st', fuj, rj, 0) := by
            rw [HTE.out, wrF, HES.out.1, HES.out.2, if_pos]
            exact .inr (by have h1 := HU.out; have h2 := HN.out; omega)
          rw [ht]
          exact ⟨rfl, O', Qj, HA9.out.log⟩
      · subst hE0
        first
        | skip
          go_region_held3 (fun w' => w'.cell? ⟨g, 0, none⟩ = some (.pointer (some ⟨o, 0, none⟩)) ∧ w'.cell? ⟨g, 1, none⟩ = some (.pointer (some ⟨p, 0, none⟩)) ∧ w'.cell? ⟨o, 0, none⟩ = some (.int .u64 q.nu) ∧ w'.cell? ⟨o, 2, none⟩ = some (.int .i64 fuj)) (first | assumption) (first
          | (go_at_call 50; refine (HAR.out _).mono ?_; rintro e wz ⟨rfl, rfl⟩)
          | (go_at_call 9
             refine (HWC.out _ (Below.refl _ _).drew rfl).mono ?_
             rintro e wz ⟨rfl, hK, O', hD', hO'⟩
             have hBz : Blk wz g 77 (walV (.pointer (some ⟨o, 0, none⟩)) p s.first lv oldv s.next 0) := (hK.block g hgl4 hgo).trans HB4.out
             have hSz : wz.cell? ⟨g, 0, none⟩ = some (.pointer (some ⟨o, 0, none⟩)) ∧ wz.cell? ⟨g, 1, none⟩ = some (.pointer (some ⟨p, 0, none⟩)) ∧ wz.cell? ⟨o, 0, none⟩ = some (.int .u64 q.nu) ∧ wz.cell? ⟨o, 2, none⟩ = some (.int .i64 fuj) := ⟨hBz.cell 0, hBz.cell 1, (hK.cell (p := ⟨o, 0, none⟩) hol4 hoo).trans y2, (hK.cell (p := ⟨o, 2, none⟩) hol4 hoo).trans y3⟩
             have HSZ := Lib.hid (And.intro hK (And.intro hD' (And.intro hO' hBz))))
          | (go_at_call 49
             refine (did_any g _ p s.first lv oldv s.next 0 _ _ HSZ.out.2.2.2).mono ?_
             rintro e w9 ⟨rfl, hB9, hK9, hs9⟩
             have hS9 : w9.cell? ⟨g, 0, none⟩ = some (.pointer (some ⟨o, 0, none⟩)) ∧ w9.cell? ⟨g, 1, none⟩ = some (.pointer (some ⟨p, 0, none⟩)) ∧ w9.cell? ⟨o, 0, none⟩ = some (.int .u64 q.nu) ∧ w9.cell? ⟨o, 2, none⟩ = some (.int .i64 fuj) := ⟨hB9.cell 0, hB9.cell 1, (hK9.cell (p := ⟨o, 0, none⟩) (Nat.lt_of_lt_of_le hol4 HSZ.out.1.size) hne).trans hSz.2.2.1, (hK9.cell (p := ⟨o, 2, none⟩) (Nat.lt_of_lt_of_le hol4 HSZ.out.1.size) hne).trans hSz.2.2.2⟩
             have HB9 := Lib.hid (And.intro hB9 (And.intro hK9 hs9))
             clear hB9 hK9 hs9))
        | fail "region"
        all_goals
          have HALL := Lib.hid (And.intro HSZ.out HB9.out)
          clear HSZ HB9 hK hD' hO' hBz hSz hS9
          obtain ⟨⟨hK, hD', hO', hBz⟩, hB9, hK9, hs9⟩ := HALL.out
          simp only [if_true] at hB9
          have hA9 := (HA4.out.below (Below.refl _ _).drew).call hK hD' hO' hB9 hK9 hs9
          obtain ⟨z0, z1, _, _, _, _, z6⟩ := blk7 hB9
          obtain ⟨t0, _, t2, t3, t4, t5⟩ := openV_at hA9.blk
          have HA9 := Lib.hid hA9
          have hu63 : u = 63 := by omega
          clear HALL hK hD' hO' hBz hB9 hK9 hs9 hA9 HWC HB4 HA4
          rw [HN.out] at t3
          have hinext : IntKind.i64.wrap ((fuj : Int) + 1) = ((fuj + 1 : Nat) : Int) := IntWalk.i64_in _ (by omega)
          have hjcase : (N = u ∧ jc = u) ∨ (N = u ∧ jc ≠ u) ∨ (N ≠ u ∧ jc ≠ u) := by omega
          have HIN := Lib.hid hinext
          clear hinext
          rcases hjcase with ⟨hn1, hj1⟩ | ⟨hn1, hj1⟩ | ⟨hn1, hj1⟩
          · subst hn1 hj1
            go_wp2_with fail
            refine' wp_cut0 _ _ ?reg ?imp
            case reg =>
              go_region_law (fail)
              all_goals
                refine ⟨rfl, ?_, ?_⟩
                · exact Eq.refl _
                · exact Eq.refl _
            case imp =>
              go_wp2_with fail
              go_ret
              have hA := HA9.out
              have ht : T = (st', fuj + 1, [], 0) := by
                have h1 := HN.out
                rw [HTE.out, wrF, HES.out.1, HES.out.2, if_neg (by omega), if_pos (List.drop_eq_nil_of_le (by omega))]
              rw [ht]
              refine ⟨rfl, O', Qj, ?_⟩
              exact (hA.inc.none.below (Below.refl _ _).drew).log
          · subst hn1
            go_wp2_with fail
            refine' wp_cut0 _ _ ?reg ?imp
            case reg =>
              go_region_law (fail)
              all_goals
                refine ⟨rfl, ?_, ?_⟩
                · exact Eq.refl _
                · exact Eq.refl _
            case imp =>
              go_wp2_with fail
              go_ret
              have hA := HA9.out
              have ht : T = (st', fuj + 1, [], 0) := by
                have h1 := HN.out
                rw [HTE.out, wrF, HES.out.1, HES.out.2, if_neg (by omega), if_pos (List.drop_eq_nil_of_le (by omega))]
              rw [ht]
              refine ⟨rfl, O', Qj, ?_⟩
              have h1 := HN.out
              have hd := hA.inc.drop (k := 63) rfl (by omega)
              rw [show rj.drop 63 = [] from List.drop_eq_nil_of_le (by omega), h1, show N - 63 = 0 by omega] at hd
              exact (hd.below (Below.refl _ _).drew).log
          · obtain ⟨M, hM⟩ : ∃ M, N - u = M := ⟨_, rfl⟩
            have HU63 := Lib.hid hu63
            have HMN := Lib.hid hM
            have hM0 : ((M : Int) == 0) = false := by rw [beq_eq_false_iff_ne]; omega
            have hM1 : ¬ ((M : Int) = 0) := by omega
            have hu4 : (0 : Int) ≤ (u : Int) := by omega
            have hu5 : (u : Int) ≤ (N : Int) := by omega
            have hu6 : (u : Int) ≤ (jc : Int) := by omega
            have hu7 : u ≤ jc := by omega
            have hu8 : u < jc := by omega
            clear hu63
            go_wp2_with fail
            refine' wp_cut0 _ _ ?reg ?imp
            case reg =>
              go_region_law (fail)
              all_goals
                refine ⟨rfl, ?_, ?_⟩
                · exact Eq.refl _
                · exact Eq.refl _
            case imp =>
              go_wp2_with fail
              have hA := HA9.out
              have hs0 : ({ s with code := 0 } : LSt) = s := by
                have := HC.out
                cases s
                simp_all
              rw [hs0] at hA
              have h1 := HN.out
              have h2 := HMN.out
              have h3 := HU63.out
              have hd := (hA.inc.drop (k := u) rfl (by omega)).below (Below.refl _ _).drew
              rw [h1, h2] at hd
              refine ⟨⟨f, st', fuj + 1, rj.drop u, O', Qj, _, ij + 1, hd, ?_, ?_, by omega, by omega, ?_, ?_, ?_⟩, ?_⟩
              · rw [HTE.out, wrF, HES.out.1, HES.out.2, if_neg (by omega), if_neg (fun e => ?_), h3]
                have := congrArg List.length e
                rw [List.length_drop, List.length_nil] at this
                omega
              · rw [← HES.out.2]
                exact fit_do HFJ.out (wf_i64 (by omega) (by omega))
              · intro e
                have := congrArg List.length e
                rw [List.length_drop, List.length_nil] at this
                omega
              · rw [List.length_drop]; omega
              · intro x hx
                exact HBY.out x (List.mem_of_mem_drop hx)
              · have e1 := (openV_at hd.blk).2.2.2.1
                have e2 := (openV_at HAT.out.blk).2.2.2.1
                have e3 : msrO o wr = rj.length := by unfold msrO; rw [e2]
                have e4 : ∀ W : World, W.cell? ⟨o, 3, none⟩ = some (.slice (some ⟨jb, jo + u, none⟩) M (jc - u)) → msrO o W = M := fun W h => by unfold msrO; rw [h]
                rw [e3]
                refine Nat.lt_of_le_of_lt (Nat.le_of_eq (e4 _ e1)) ?_
                omega
end Go.Proofs.Ytcpkpljeimbdiaa.W
