/-
  The walk of the law that quorums meet.
-/
import Derived.Test.YtmokfpjiibociaaRulMeetM
import Derived.Deep.Grids
namespace Go.Proofs.Ytmokfpjiibociaa.R
open Go.ChangeShapes Go.WideShapes Go.ChangeAt Go.RowKit
open Aid
set_option linter.unusedSimpArgs false
set_option linter.unusedVariables false

/-- a slice value whose elements read as a list of bools -/
def Bools (w : World) (v : Value) (s : List Bool) : Prop := s.length ≤ 140737488355328 ∧ ∃ a cap, v = .slice a s.length cap ∧ ∀ j, j < s.length → ∃ b o, a = some ⟨b, o, none⟩ ∧ b < w.heap.size ∧ w.cell? ⟨b, o + j, none⟩ = some (.bool (s.getD j false))
theorem Bools.below {w w' : World} {v : Value} {s : List Bool} (h : Bools w v s) (hb : Below w.heap.size w w') : Bools w' v s := by
  obtain ⟨h0, a, cap, hv, h⟩ := h
  refine ⟨h0, a, cap, hv, fun j hj => ?_⟩
  obtain ⟨b, o, h1, h2, h3⟩ := h j hj
  exact ⟨b, o, h1, by have := hb.size; omega, (hb.cell (p := ⟨b, o + j, none⟩) h2).trans h3⟩
theorem Bools.arg {H : Type} {enc : TypeId × Value → H} {P : Program} {W : World} {b0 : Nat} {t e : TypeId} {v : Value} {d : DataW H} {p : List MemPlace} {r : Reach}
    (ht : P.underlying t = some (.slice e)) (he : P.underlying e = some .bool) (hc : P.cellsOf e = 1) (hval : Value.okWide P W r b0 t v)
    (h : DataW.Trod enc P W 0 (fun _ => true) true t v d p) (hlt : ∀ x ∈ p, x.block < W.heap.size) (hsize : ∀ elems spare, d = .slice elems spare → elems.length ≤ 140737488355328) : ∃ s, Bools W v s := by
  obtain ⟨a0, len, cap, rfl⟩ : ∃ a l c, v = .slice a l c := okWide_slice ht hval
  obtain ⟨fuel, hf⟩ := h
  rcases Go.Deep.open_bools ht he hc hf with ⟨hcs, hx⟩ | ⟨a, len', cap', B, hcs, hab, hl, hm, hx, hcell⟩
  · simp [Value.cells] at hcs
    obtain ⟨rfl, rfl, rfl⟩ := hcs
    exact ⟨[], by simp, none, 0, rfl, fun j hj => by simp at hj⟩
  · simp [Value.cells] at hcs
    obtain ⟨rfl, rfl, rfl⟩ := hcs
    simp only [Prod.mk.injEq, Go.Deep.boolRow] at hx
    have h1 := hsize _ _ hx.1
    simp only [List.length_map, List.length_range] at h1
    refine ⟨(List.range len).map B, by simp; omega, some a, cap, by simp, fun j hj => ?_⟩
    simp at hj
    have hab2 : a.block < W.heap.size := by
      have hc0 := hcell 0 (by omega)
      rw [show a.add 0 = a by unfold Addr.add; simp] at hc0
      exact World.block_lt_of_cell? W a hc0
    have hj2 := hcell j (by omega)
    obtain ⟨b, o, sp⟩ := a
    have hspot : sp = none := by simpa [Addr.add] using World.cell?_spot (hcell 0 (by omega))
    subst hspot
    refine ⟨b, o, rfl, hab2, ?_⟩
    rw [addr_any] at hj2
    rw [hj2]
    simp [List.getD_eq_getElem?_getD, hj]

/-- what lies there in the law: the configuration, the sides, what the changes made -/
structure St (w0 : World) (gc ga gb : Nat) (vc va vb v7 v8 : Value) (l la lb xs ys : List Int) (w : World) : Prop where
  c : Has w gc vc l
  a : Has w ga va la
  b : Has w gb vb lb
  one : Ints w .i64 v7 xs
  two : Ints w .i64 v8 ys
  from0 : Below w0.heap.size w0 w
theorem St.keep {w0 : World} {gc ga gb : Nat} {vc va vb v7 v8 : Value} {l la lb xs ys : List Int} {w w1 : World} (h : St w0 gc ga gb vc va vb v7 v8 l la lb xs ys w) (hb : Below w.heap.size w w1) : St w0 gc ga gb vc va vb v7 v8 l la lb xs ys w1 :=
  ⟨h.c.keep hb, h.a.keep hb, h.b.keep hb, h.one.below hb, h.two.below hb, h.from0.trans (hb.mono h.from0.size)⟩

set_option maxRecDepth 100000 in
set_option maxHeartbeats 8000000 in
theorem meet_law (v u : Value) (l : List Int) (x : Int) (s : List Bool) (w : World) (h : Ints w .i64 v l) (hcap : CapOk v) (hs : Bools w u s) : Calls Try.prog 14 #[.agg #[v], .int .i64 x, u] w (TrueIn w) := by
  obtain ⟨i0, hi, hz0, hz1, hz2⟩ := info_parts (show (Try.prog.info? 3).map (fun i => (i.zero, i.size, i.bytes)) = some (some (.int .i64 0), 1, 8) by kernel_rfl)
  have HS := Lib.hid hs
  have s63 := hs.1
  clear hs
  obtain ⟨a, c, rfl⟩ := Ints.form h
  obtain ⟨au, cu, rfl⟩ : ∃ a c, u = .slice a s.length c := by obtain ⟨_, a, cap, hv, _⟩ := HS.out; exact ⟨a, cap, hv⟩
  go_enter Try.func14, Try.ntmps14
  go_wp2_with fail
  have H0 := Has.new h 40
  have hb0 : Below w.heap.size w (w.alloc (.cells #[.slice a l.length c] 40)) := (Below.refl _ _).alloc (Nat.le_refl _) _
  have HS0 := HS.out.below hb0
  refine (rright_any _ l _ H0.2.1).mono ?_
  rintro e w1 ⟨rfl, hb1⟩
  have H1 := H0.keep hb1
  have HS1 := Lib.hid (HS0.below hb1)
  have hbw1 := hb0.trans (hb1.mono hb0.size)
  clear h HS H0 hb0 HS0 hb1
  cases hr : rightB l
  · skip
    go_wp2_with fail
    refine (alive_any _).mono ?_
    rintro e w2 ⟨rfl, hb2⟩
    go_wp2_with fail
    go_ret
    exact ⟨rfl, hbw1.trans (hb2.mono hbw1.size)⟩
  · skip
    go_wp2_with fail
    go_loopw [7, 8, 18] (fun v7 v8 i wr => ∃ (k : Nat) (xs ys : List Int), i = .int .i64 k ∧ k ≤ 7 ∧ xs.length ≤ k ∧ ys.length ≤ k ∧ Hid (xs = ([0, 1, 2, 3, 4, 5, 6].take k).filter (sideB s)) ∧ Hid (ys = ([0, 1, 2, 3, 4, 5, 6].take k).filter fun v => !sideB s v) ∧
        Hid (Duo wr w1.heap.size 3 v7 v8 xs.length ys.length (xs.map (.int .i64)) (ys.map (.int .i64))) ∧ Below w1.heap.size w1 wr)
      (fun _ _ i _ => 7 - (intOf i).toNat)
    case atStart => exact ⟨0, [], [], rfl, by omega, Nat.le_refl _, Nat.le_refl _, by simp [Hid], by simp [Hid], Duo.nil _ _ _, Below.refl _ _⟩
    case round =>
      obtain ⟨k, xs, ys, rfl, hk, hxk, hyk, HX, HY, HT, hb⟩ := hrel
      have hwr := hb.size
      by_cases hlt : (k : Int) < 7
      · have HXn := Lib.hid (sel_next (sideB s) k (by omega))
        have HYn := Lib.hid (sel_next (fun v => !sideB s v) k (by omega))
        rw [← HX.out] at HXn
        rw [← HY.out] at HYn
        by_cases hks : (k : Int) < (s.length : Int)
        · obtain ⟨z, hz⟩ : ∃ z, s.getD k false = z := ⟨_, rfl⟩
          have hsz : sideB s (k : Int) = z := by unfold sideB; rw [Int.toNat_natCast, hz]; simp [hks]
          simp only [hsz] at HXn HYn
          obtain ⟨b2, o2, had, _, cz⟩ : ∃ b o, au = some ⟨b, o, none⟩ ∧ b < wr.heap.size ∧ wr.cell? ⟨b, o + k, none⟩ = some (.bool z) := by
            obtain ⟨_, a, cap, hv, hc⟩ := (HS1.out.below hb)
            simp at hv
            obtain ⟨rfl, _⟩ := hv
            obtain ⟨b, o, h1, h2, h3⟩ := hc k (by omega)
            exact ⟨b, o, h1, h2, by rw [h3, hz]⟩
          subst had
          clear hz hsz
          cases z
          · simp only [Bool.not_false, Bool.false_eq_true, if_true, if_false, List.append_nil] at HXn HYn
            go_wp2_with (first | (at_builtin; refine wpList_duo _ (by rfl) _ _ 38 rfl w1.heap.size 3 i0 (.int .i64 0) 8 Try.underlying38 hi hz0 hz1 hz2 rfl _ _ _ _ _ _ rfl (HT.out.swap.below ((Below.refl _ _).alloc (Nat.le_refl _) _)) wr.heap.size (.int .i64 (k : Int)) rfl (cell_new _ _ _ _ rfl) rfl (by unfold maxLen; omega) (by omega) (by simp; omega) ?_; intro u5 w5 HT5 hb5; have hb6 := hb.trans (((Below.refl w1.heap.size wr).alloc hwr _).trans hb5)))
            exact ⟨⟨k + 1, xs, ys ++ [(k : Int)], by go_num, by omega, by omega, by simp; omega, HXn.out.symm, HYn.out.symm, (by show Duo _ _ _ _ _ _ _ _ _; simpa using HT5.swap), hb6⟩, by simp [intOf]; omega⟩
          · simp only [Bool.not_true, Bool.false_eq_true, if_true, if_false, List.append_nil] at HXn HYn
            go_wp2_with (first | (at_builtin; refine wpList_duo _ (by rfl) _ _ 38 rfl w1.heap.size 3 i0 (.int .i64 0) 8 Try.underlying38 hi hz0 hz1 hz2 rfl _ _ _ _ _ _ rfl (HT.out.below ((Below.refl _ _).alloc (Nat.le_refl _) _)) wr.heap.size (.int .i64 (k : Int)) rfl (cell_new _ _ _ _ rfl) rfl (by unfold maxLen; omega) (by omega) (by simp; omega) ?_; intro u5 w5 HT5 hb5; have hb6 := hb.trans (((Below.refl w1.heap.size wr).alloc hwr _).trans hb5)))
            exact ⟨⟨k + 1, xs ++ [(k : Int)], ys, by go_num, by omega, by simp; omega, by omega, HXn.out.symm, HYn.out.symm, (by show Duo _ _ _ _ _ _ _ _ _; simpa using HT5), hb6⟩, by simp [intOf]; omega⟩
        · have hsz : sideB s (k : Int) = false := by unfold sideB; simp; intro hh; omega
          simp only [hsz, Bool.not_false, Bool.false_eq_true, if_true, if_false, List.append_nil] at HXn HYn
          clear hsz
          go_wp2_with (first | (at_builtin; refine wpList_duo _ (by rfl) _ _ 38 rfl w1.heap.size 3 i0 (.int .i64 0) 8 Try.underlying38 hi hz0 hz1 hz2 rfl _ _ _ _ _ _ rfl (HT.out.swap.below ((Below.refl _ _).alloc (Nat.le_refl _) _)) wr.heap.size (.int .i64 (k : Int)) rfl (cell_new _ _ _ _ rfl) rfl (by unfold maxLen; omega) (by omega) (by simp; omega) ?_; intro u5 w5 HT5 hb5; have hb6 := hb.trans (((Below.refl w1.heap.size wr).alloc hwr _).trans hb5)))
          exact ⟨⟨k + 1, xs, ys ++ [(k : Int)], by go_num, by omega, by omega, by simp; omega, HXn.out.symm, HYn.out.symm, (by show Duo _ _ _ _ _ _ _ _ _; simpa using HT5.swap), hb6⟩, by simp [intOf]; omega⟩
      · have hke : k = 7 := by omega
        subst hke
        have hxs : xs = oneL s := HX.out
        have hys : ys = twoL s := HY.out
        clear HX HY
        have hI := And.intro (Ints.own HT.out.1 (by omega)) (Ints.own HT.out.2.1 (by omega))
        have HMS := meet_same hr s
        have HLx := hr
        have HR1 := H1.keep hb
        have hbr := hbw1.trans (hb.mono hbw1.size)
        have M1 : Hid (∀ q, legalB l x = true → hasB l x = false → q = insL l x → (quorumB l xs && quorumB q ys) = false ∧ (quorumB q xs && quorumB l ys) = false) := by
          intro q h1 h2 h3; subst h3; rw [hxs, hys]; have h4 := legal_iff h1; exact meet_ins h4.1 h4.2.1 h4.2.2 h2 s
        have M2 : Hid (∀ q, hasB l x = true → q = remL l x → (quorumB l xs && quorumB q ys) = false ∧ (quorumB q xs && quorumB l ys) = false) := by
          intro q h2 h3; subst h3; rw [hxs, hys]; exact meet_rem hr h2 s
        rw [← hxs, ← hys] at HMS
        have k0 := HR1.1
        obtain ⟨v7f, hv7⟩ := Ints.form hI.1
        obtain ⟨c7f, hv7⟩ := hv7
        obtain ⟨v8f, hv8⟩ := Ints.form hI.2
        obtain ⟨c8f, hv8⟩ := hv8
        subst hv7 hv8
        clear hxs hys HT hb H1 HS1 hbw1
        go_wp2_with fail
        refine (add_any _ l x _ HR1.2.1).mono ?_
        obtain ⟨la, n, hla⟩ : ∃ r n, addF l x = (r, n) := ⟨_, _, rfl⟩
        obtain ⟨lb, m, hlb⟩ : ∃ r n, remF l x = (r, n) := ⟨_, _, rfl⟩
        have HLA := Lib.hid hla
        have HLB := Lib.hid hlb
        rintro e w3 ⟨v3, rfl, hI3, hb3, _⟩
        rw [HLA.out] at hI3 ⊢
        obtain ⟨a3, c3, rfl⟩ := Ints.form hI3
        have G0 := HR1.step hb3 (.cells #[.slice a3 la.length c3] 40)
        have G1 := Has.new hI3 40
        have GA := (hI.1.below hb3).below ((Below.refl _ _).alloc (Nat.le_refl _) (.cells #[.slice a3 la.length c3] 40))
        have GB := (hI.2.below hb3).below ((Below.refl _ _).alloc (Nat.le_refl _) (.cells #[.slice a3 la.length c3] 40))
        have hbw3 := below_step hbr hbr.size hb3 (.cells #[.slice a3 la.length c3] 40)
        have k1 := G0.1
        clear k0 HR1 hI hI3 hb3 hbr
        go_wp2_with fail
        refine (rem_any _ l x _ G0.2.1 hcap).mono ?_
        rintro e w4 ⟨v4, rfl, hI4, hb4, _⟩
        rw [HLB.out] at hI4 ⊢
        obtain ⟨a4, c4, rfl⟩ := Ints.form hI4
        have S0 : St w w.heap.size w3.heap.size w4.heap.size _ _ _ _ _ l la lb xs ys (w4.alloc (.cells #[.slice a4 lb.length c4] 40)) :=
          ⟨G0.step hb4 _, G1.step hb4 _, Has.new hI4 _, (GA.below hb4).below ((Below.refl _ _).alloc (Nat.le_refl _) _), (GB.below hb4).below ((Below.refl _ _).alloc (Nat.le_refl _) _), below_step hbw3 hbw3.size hb4 _⟩
        clear k1 G0 G1 GA GB hbw3 hI4 hb4 HLA HLB
        have kc0 := S0.c.1
        have ka0 := S0.a.1
        have kb0 := S0.b.1
        by_cases hE : (n == 0) = false ∧ (m != 0) = true
        · obtain ⟨hn, hm⟩ := hE
          clear hla hlb M1 M2
          cases hp1 : quorumB l xs
          · have P1 := Lib.hid hp1
            clear hp1 HMS
            go_wp2_with fail
            refine (quorum_any _ _ l xs _ S0.c.2.1 S0.one).mono ?_
            rintro e u1 ⟨rfl, hq1⟩
            rw [P1.out]
            have S1 := S0.keep hq1
            clear kc0 ka0 kb0 hq1 S0
            have kc1 := S1.c.1
            have ka1 := S1.a.1
            have kb1 := S1.b.1
            go_wp2_with fail
            refine (alive_any _).mono ?_
            rintro e u2 ⟨rfl, hq2⟩
            have S2 := S1.keep hq2
            clear kc1 ka1 kb1 hq2 S1
            have kc2 := S2.c.1
            have ka2 := S2.a.1
            have kb2 := S2.b.1
            go_wp2_with fail
            go_ret
            exact ⟨ret_bool (by simp), S2.from0⟩
          · have P1 := Lib.hid hp1
            have P2 : Hid (quorumB l ys = false) := by show _ = _; rw [hp1] at HMS; simpa using HMS
            clear hp1 HMS
            go_wp2_with fail
            refine (quorum_any _ _ l xs _ S0.c.2.1 S0.one).mono ?_
            rintro e u1 ⟨rfl, hq1⟩
            rw [P1.out]
            have S1 := S0.keep hq1
            clear kc0 ka0 kb0 hq1 S0
            have kc1 := S1.c.1
            have ka1 := S1.a.1
            have kb1 := S1.b.1
            go_wp2_with fail
            refine (quorum_any _ _ l ys _ S1.c.2.1 S1.two).mono ?_
            rintro e u2 ⟨rfl, hq2⟩
            rw [P2.out]
            have S2 := S1.keep hq2
            clear kc1 ka1 kb1 hq2 S1
            have kc2 := S2.c.1
            have ka2 := S2.a.1
            have kb2 := S2.b.1
            go_wp2_with fail
            refine (alive_any _).mono ?_
            rintro e u3 ⟨rfl, hq3⟩
            have S3 := S2.keep hq3
            clear kc2 ka2 kb2 hq3 S2
            have kc3 := S3.c.1
            have ka3 := S3.a.1
            have kb3 := S3.b.1
            go_wp2_with fail
            go_ret
            exact ⟨ret_bool (by simp), S3.from0⟩
        · have hleg : legalB l x = true := by
            cases hl : legalB l x with
            | true => rfl
            | false =>
              exfalso; apply hE
              unfold addF at hla; unfold remF at hlb
              rw [hl] at hla hlb
              simp at hla hlb
              rw [← hla.2, ← hlb.2]; decide
          cases hx : hasB l x
          · have e1 : la = insL l x ∧ n = 0 := by unfold addF at hla; rw [hleg, hx] at hla; simp at hla; exact ⟨hla.1.symm, hla.2.symm⟩
            have e2 : m = 191 := by unfold remF at hlb; rw [hleg, hx] at hlb; simp at hlb; exact hlb.2.symm
            obtain ⟨e1, rfl⟩ := e1
            subst e2
            have hM := M1.out la hleg hx e1
            clear hla hlb M1 M2 hE hleg hx e1
            cases hp1 : quorumB l xs
            · have P1 := Lib.hid hp1
              cases ht1 : quorumB la xs
              · skip
                have A1 := Lib.hid ht1
                clear hp1 ht1 HMS hM
                go_wp2_with fail
                refine (quorum_any _ _ l xs _ S0.c.2.1 S0.one).mono ?_
                rintro e u1 ⟨rfl, hq1⟩
                rw [P1.out]
                have S1 := S0.keep hq1
                clear kc0 ka0 kb0 hq1 S0
                have kc1 := S1.c.1
                have ka1 := S1.a.1
                have kb1 := S1.b.1
                go_wp2_with fail
                refine (quorum_any _ _ l xs _ S1.c.2.1 S1.one).mono ?_
                rintro e u2 ⟨rfl, hq2⟩
                rw [P1.out]
                have S2 := S1.keep hq2
                clear kc1 ka1 kb1 hq2 S1
                have kc2 := S2.c.1
                have ka2 := S2.a.1
                have kb2 := S2.b.1
                go_wp2_with fail
                refine (quorum_any _ _ la xs _ S2.a.2.1 S2.one).mono ?_
                rintro e u3 ⟨rfl, hq3⟩
                rw [A1.out]
                have S3 := S2.keep hq3
                clear kc2 ka2 kb2 hq3 S2
                have kc3 := S3.c.1
                have ka3 := S3.a.1
                have kb3 := S3.b.1
                go_wp2_with fail
                refine (alive_any _).mono ?_
                rintro e u4 ⟨rfl, hq4⟩
                have S4 := S3.keep hq4
                clear kc3 ka3 kb3 hq4 S3
                have kc4 := S4.c.1
                have ka4 := S4.a.1
                have kb4 := S4.b.1
                go_wp2_with fail
                go_ret
                exact ⟨ret_bool (by simp), S4.from0⟩
              · skip
                have A1 := Lib.hid ht1
                have P2 : Hid (quorumB l ys = false) := by show _ = _; have := hM.2; rw [ht1] at this; simpa using this
                clear hp1 ht1 HMS hM
                go_wp2_with fail
                refine (quorum_any _ _ l xs _ S0.c.2.1 S0.one).mono ?_
                rintro e u1 ⟨rfl, hq1⟩
                rw [P1.out]
                have S1 := S0.keep hq1
                clear kc0 ka0 kb0 hq1 S0
                have kc1 := S1.c.1
                have ka1 := S1.a.1
                have kb1 := S1.b.1
                go_wp2_with fail
                refine (quorum_any _ _ l xs _ S1.c.2.1 S1.one).mono ?_
                rintro e u2 ⟨rfl, hq2⟩
                rw [P1.out]
                have S2 := S1.keep hq2
                clear kc1 ka1 kb1 hq2 S1
                have kc2 := S2.c.1
                have ka2 := S2.a.1
                have kb2 := S2.b.1
                go_wp2_with fail
                refine (quorum_any _ _ la xs _ S2.a.2.1 S2.one).mono ?_
                rintro e u3 ⟨rfl, hq3⟩
                rw [A1.out]
                have S3 := S2.keep hq3
                clear kc2 ka2 kb2 hq3 S2
                have kc3 := S3.c.1
                have ka3 := S3.a.1
                have kb3 := S3.b.1
                go_wp2_with fail
                refine (quorum_any _ _ l ys _ S3.c.2.1 S3.two).mono ?_
                rintro e u4 ⟨rfl, hq4⟩
                rw [P2.out]
                have S4 := S3.keep hq4
                clear kc3 ka3 kb3 hq4 S3
                have kc4 := S4.c.1
                have ka4 := S4.a.1
                have kb4 := S4.b.1
                go_wp2_with fail
                refine (alive_any _).mono ?_
                rintro e u5 ⟨rfl, hq5⟩
                have S5 := S4.keep hq5
                clear kc4 ka4 kb4 hq5 S4
                have kc5 := S5.c.1
                have ka5 := S5.a.1
                have kb5 := S5.b.1
                go_wp2_with fail
                go_ret
                exact ⟨ret_bool (by simp), S5.from0⟩
            · have P1 := Lib.hid hp1
              have P2 : Hid (quorumB l ys = false) := by show _ = _; rw [hp1] at HMS; simpa using HMS
              cases ht1 : quorumB la xs
              · skip
                have A1 := Lib.hid ht1
                have A2 : Hid (quorumB la ys = false) := by show _ = _; have := hM.1; rw [hp1] at this; simpa using this
                clear hp1 ht1 HMS hM
                go_wp2_with fail
                refine (quorum_any _ _ l xs _ S0.c.2.1 S0.one).mono ?_
                rintro e u1 ⟨rfl, hq1⟩
                rw [P1.out]
                have S1 := S0.keep hq1
                clear kc0 ka0 kb0 hq1 S0
                have kc1 := S1.c.1
                have ka1 := S1.a.1
                have kb1 := S1.b.1
                go_wp2_with fail
                refine (quorum_any _ _ l ys _ S1.c.2.1 S1.two).mono ?_
                rintro e u2 ⟨rfl, hq2⟩
                rw [P2.out]
                have S2 := S1.keep hq2
                clear kc1 ka1 kb1 hq2 S1
                have kc2 := S2.c.1
                have ka2 := S2.a.1
                have kb2 := S2.b.1
                go_wp2_with fail
                refine (quorum_any _ _ l xs _ S2.c.2.1 S2.one).mono ?_
                rintro e u3 ⟨rfl, hq3⟩
                rw [P1.out]
                have S3 := S2.keep hq3
                clear kc2 ka2 kb2 hq3 S2
                have kc3 := S3.c.1
                have ka3 := S3.a.1
                have kb3 := S3.b.1
                go_wp2_with fail
                refine (quorum_any _ _ la ys _ S3.a.2.1 S3.two).mono ?_
                rintro e u4 ⟨rfl, hq4⟩
                rw [A2.out]
                have S4 := S3.keep hq4
                clear kc3 ka3 kb3 hq4 S3
                have kc4 := S4.c.1
                have ka4 := S4.a.1
                have kb4 := S4.b.1
                go_wp2_with fail
                refine (quorum_any _ _ la xs _ S4.a.2.1 S4.one).mono ?_
                rintro e u5 ⟨rfl, hq5⟩
                rw [A1.out]
                have S5 := S4.keep hq5
                clear kc4 ka4 kb4 hq5 S4
                have kc5 := S5.c.1
                have ka5 := S5.a.1
                have kb5 := S5.b.1
                go_wp2_with fail
                refine (alive_any _).mono ?_
                rintro e u6 ⟨rfl, hq6⟩
                have S6 := S5.keep hq6
                clear kc5 ka5 kb5 hq6 S5
                have kc6 := S6.c.1
                have ka6 := S6.a.1
                have kb6 := S6.b.1
                go_wp2_with fail
                go_ret
                exact ⟨ret_bool (by simp), S6.from0⟩
              · skip
                have A1 := Lib.hid ht1
                have A2 : Hid (quorumB la ys = false) := by show _ = _; have := hM.1; rw [hp1] at this; simpa using this
                clear hp1 ht1 HMS hM
                go_wp2_with fail
                refine (quorum_any _ _ l xs _ S0.c.2.1 S0.one).mono ?_
                rintro e u1 ⟨rfl, hq1⟩
                rw [P1.out]
                have S1 := S0.keep hq1
                clear kc0 ka0 kb0 hq1 S0
                have kc1 := S1.c.1
                have ka1 := S1.a.1
                have kb1 := S1.b.1
                go_wp2_with fail
                refine (quorum_any _ _ l ys _ S1.c.2.1 S1.two).mono ?_
                rintro e u2 ⟨rfl, hq2⟩
                rw [P2.out]
                have S2 := S1.keep hq2
                clear kc1 ka1 kb1 hq2 S1
                have kc2 := S2.c.1
                have ka2 := S2.a.1
                have kb2 := S2.b.1
                go_wp2_with fail
                refine (quorum_any _ _ l xs _ S2.c.2.1 S2.one).mono ?_
                rintro e u3 ⟨rfl, hq3⟩
                rw [P1.out]
                have S3 := S2.keep hq3
                clear kc2 ka2 kb2 hq3 S2
                have kc3 := S3.c.1
                have ka3 := S3.a.1
                have kb3 := S3.b.1
                go_wp2_with fail
                refine (quorum_any _ _ la ys _ S3.a.2.1 S3.two).mono ?_
                rintro e u4 ⟨rfl, hq4⟩
                rw [A2.out]
                have S4 := S3.keep hq4
                clear kc3 ka3 kb3 hq4 S3
                have kc4 := S4.c.1
                have ka4 := S4.a.1
                have kb4 := S4.b.1
                go_wp2_with fail
                refine (quorum_any _ _ la xs _ S4.a.2.1 S4.one).mono ?_
                rintro e u5 ⟨rfl, hq5⟩
                rw [A1.out]
                have S5 := S4.keep hq5
                clear kc4 ka4 kb4 hq5 S4
                have kc5 := S5.c.1
                have ka5 := S5.a.1
                have kb5 := S5.b.1
                go_wp2_with fail
                refine (quorum_any _ _ l ys _ S5.c.2.1 S5.two).mono ?_
                rintro e u6 ⟨rfl, hq6⟩
                rw [P2.out]
                have S6 := S5.keep hq6
                clear kc5 ka5 kb5 hq6 S5
                have kc6 := S6.c.1
                have ka6 := S6.a.1
                have kb6 := S6.b.1
                go_wp2_with fail
                refine (alive_any _).mono ?_
                rintro e u7 ⟨rfl, hq7⟩
                have S7 := S6.keep hq7
                clear kc6 ka6 kb6 hq7 S6
                have kc7 := S7.c.1
                have ka7 := S7.a.1
                have kb7 := S7.b.1
                go_wp2_with fail
                go_ret
                exact ⟨ret_bool (by simp), S7.from0⟩
          · have hl1 : l.length ≠ 1 := by
              intro hl
              apply hE
              unfold addF at hla; unfold remF at hlb
              rw [hleg, hx] at hla hlb
              simp [hl] at hla hlb
              rw [← hla.2, ← hlb.2]; decide
            have e1 : lb = remL l x ∧ m = 0 := by unfold remF at hlb; rw [hleg, hx] at hlb; simp [hl1] at hlb; exact ⟨hlb.1.symm, hlb.2.symm⟩
            have e2 : n = 191 := by unfold addF at hla; rw [hleg, hx] at hla; simp at hla; exact hla.2.symm
            obtain ⟨e1, rfl⟩ := e1
            subst e2
            have hM := M2.out lb hx e1
            clear hla hlb M1 M2 hE hleg hx e1
            cases hp1 : quorumB l xs
            · have P1 := Lib.hid hp1
              cases ht1 : quorumB lb xs
              · skip
                have B1 := Lib.hid ht1
                clear hp1 ht1 HMS hM
                go_wp2_with fail
                refine (quorum_any _ _ l xs _ S0.c.2.1 S0.one).mono ?_
                rintro e u1 ⟨rfl, hq1⟩
                rw [P1.out]
                have S1 := S0.keep hq1
                clear kc0 ka0 kb0 hq1 S0
                have kc1 := S1.c.1
                have ka1 := S1.a.1
                have kb1 := S1.b.1
                go_wp2_with fail
                refine (alive_any _).mono ?_
                rintro e u2 ⟨rfl, hq2⟩
                have S2 := S1.keep hq2
                clear kc1 ka1 kb1 hq2 S1
                have kc2 := S2.c.1
                have ka2 := S2.a.1
                have kb2 := S2.b.1
                go_wp2_with fail
                refine (quorum_any _ _ l xs _ S2.c.2.1 S2.one).mono ?_
                rintro e u3 ⟨rfl, hq3⟩
                rw [P1.out]
                have S3 := S2.keep hq3
                clear kc2 ka2 kb2 hq3 S2
                have kc3 := S3.c.1
                have ka3 := S3.a.1
                have kb3 := S3.b.1
                go_wp2_with fail
                refine (quorum_any _ _ lb xs _ S3.b.2.1 S3.one).mono ?_
                rintro e u4 ⟨rfl, hq4⟩
                rw [B1.out]
                have S4 := S3.keep hq4
                clear kc3 ka3 kb3 hq4 S3
                have kc4 := S4.c.1
                have ka4 := S4.a.1
                have kb4 := S4.b.1
                go_wp2_with fail
                go_ret
                exact ⟨ret_bool (by simp), S4.from0⟩
              · skip
                have B1 := Lib.hid ht1
                have P2 : Hid (quorumB l ys = false) := by show _ = _; have := hM.2; rw [ht1] at this; simpa using this
                clear hp1 ht1 HMS hM
                go_wp2_with fail
                refine (quorum_any _ _ l xs _ S0.c.2.1 S0.one).mono ?_
                rintro e u1 ⟨rfl, hq1⟩
                rw [P1.out]
                have S1 := S0.keep hq1
                clear kc0 ka0 kb0 hq1 S0
                have kc1 := S1.c.1
                have ka1 := S1.a.1
                have kb1 := S1.b.1
                go_wp2_with fail
                refine (alive_any _).mono ?_
                rintro e u2 ⟨rfl, hq2⟩
                have S2 := S1.keep hq2
                clear kc1 ka1 kb1 hq2 S1
                have kc2 := S2.c.1
                have ka2 := S2.a.1
                have kb2 := S2.b.1
                go_wp2_with fail
                refine (quorum_any _ _ l xs _ S2.c.2.1 S2.one).mono ?_
                rintro e u3 ⟨rfl, hq3⟩
                rw [P1.out]
                have S3 := S2.keep hq3
                clear kc2 ka2 kb2 hq3 S2
                have kc3 := S3.c.1
                have ka3 := S3.a.1
                have kb3 := S3.b.1
                go_wp2_with fail
                refine (quorum_any _ _ lb xs _ S3.b.2.1 S3.one).mono ?_
                rintro e u4 ⟨rfl, hq4⟩
                rw [B1.out]
                have S4 := S3.keep hq4
                clear kc3 ka3 kb3 hq4 S3
                have kc4 := S4.c.1
                have ka4 := S4.a.1
                have kb4 := S4.b.1
                go_wp2_with fail
                refine (quorum_any _ _ l ys _ S4.c.2.1 S4.two).mono ?_
                rintro e u5 ⟨rfl, hq5⟩
                rw [P2.out]
                have S5 := S4.keep hq5
                clear kc4 ka4 kb4 hq5 S4
                have kc5 := S5.c.1
                have ka5 := S5.a.1
                have kb5 := S5.b.1
                go_wp2_with fail
                go_ret
                exact ⟨ret_bool (by simp), S5.from0⟩
            · have P1 := Lib.hid hp1
              have P2 : Hid (quorumB l ys = false) := by show _ = _; rw [hp1] at HMS; simpa using HMS
              cases ht1 : quorumB lb xs
              · skip
                have B1 := Lib.hid ht1
                have B2 : Hid (quorumB lb ys = false) := by show _ = _; have := hM.1; rw [hp1] at this; simpa using this
                clear hp1 ht1 HMS hM
                go_wp2_with fail
                refine (quorum_any _ _ l xs _ S0.c.2.1 S0.one).mono ?_
                rintro e u1 ⟨rfl, hq1⟩
                rw [P1.out]
                have S1 := S0.keep hq1
                clear kc0 ka0 kb0 hq1 S0
                have kc1 := S1.c.1
                have ka1 := S1.a.1
                have kb1 := S1.b.1
                go_wp2_with fail
                refine (quorum_any _ _ l ys _ S1.c.2.1 S1.two).mono ?_
                rintro e u2 ⟨rfl, hq2⟩
                rw [P2.out]
                have S2 := S1.keep hq2
                clear kc1 ka1 kb1 hq2 S1
                have kc2 := S2.c.1
                have ka2 := S2.a.1
                have kb2 := S2.b.1
                go_wp2_with fail
                refine (alive_any _).mono ?_
                rintro e u3 ⟨rfl, hq3⟩
                have S3 := S2.keep hq3
                clear kc2 ka2 kb2 hq3 S2
                have kc3 := S3.c.1
                have ka3 := S3.a.1
                have kb3 := S3.b.1
                go_wp2_with fail
                refine (quorum_any _ _ l xs _ S3.c.2.1 S3.one).mono ?_
                rintro e u4 ⟨rfl, hq4⟩
                rw [P1.out]
                have S4 := S3.keep hq4
                clear kc3 ka3 kb3 hq4 S3
                have kc4 := S4.c.1
                have ka4 := S4.a.1
                have kb4 := S4.b.1
                go_wp2_with fail
                refine (quorum_any _ _ lb ys _ S4.b.2.1 S4.two).mono ?_
                rintro e u5 ⟨rfl, hq5⟩
                rw [B2.out]
                have S5 := S4.keep hq5
                clear kc4 ka4 kb4 hq5 S4
                have kc5 := S5.c.1
                have ka5 := S5.a.1
                have kb5 := S5.b.1
                go_wp2_with fail
                refine (quorum_any _ _ lb xs _ S5.b.2.1 S5.one).mono ?_
                rintro e u6 ⟨rfl, hq6⟩
                rw [B1.out]
                have S6 := S5.keep hq6
                clear kc5 ka5 kb5 hq6 S5
                have kc6 := S6.c.1
                have ka6 := S6.a.1
                have kb6 := S6.b.1
                go_wp2_with fail
                go_ret
                exact ⟨ret_bool (by simp), S6.from0⟩
              · skip
                have B1 := Lib.hid ht1
                have B2 : Hid (quorumB lb ys = false) := by show _ = _; have := hM.1; rw [hp1] at this; simpa using this
                clear hp1 ht1 HMS hM
                go_wp2_with fail
                refine (quorum_any _ _ l xs _ S0.c.2.1 S0.one).mono ?_
                rintro e u1 ⟨rfl, hq1⟩
                rw [P1.out]
                have S1 := S0.keep hq1
                clear kc0 ka0 kb0 hq1 S0
                have kc1 := S1.c.1
                have ka1 := S1.a.1
                have kb1 := S1.b.1
                go_wp2_with fail
                refine (quorum_any _ _ l ys _ S1.c.2.1 S1.two).mono ?_
                rintro e u2 ⟨rfl, hq2⟩
                rw [P2.out]
                have S2 := S1.keep hq2
                clear kc1 ka1 kb1 hq2 S1
                have kc2 := S2.c.1
                have ka2 := S2.a.1
                have kb2 := S2.b.1
                go_wp2_with fail
                refine (alive_any _).mono ?_
                rintro e u3 ⟨rfl, hq3⟩
                have S3 := S2.keep hq3
                clear kc2 ka2 kb2 hq3 S2
                have kc3 := S3.c.1
                have ka3 := S3.a.1
                have kb3 := S3.b.1
                go_wp2_with fail
                refine (quorum_any _ _ l xs _ S3.c.2.1 S3.one).mono ?_
                rintro e u4 ⟨rfl, hq4⟩
                rw [P1.out]
                have S4 := S3.keep hq4
                clear kc3 ka3 kb3 hq4 S3
                have kc4 := S4.c.1
                have ka4 := S4.a.1
                have kb4 := S4.b.1
                go_wp2_with fail
                refine (quorum_any _ _ lb ys _ S4.b.2.1 S4.two).mono ?_
                rintro e u5 ⟨rfl, hq5⟩
                rw [B2.out]
                have S5 := S4.keep hq5
                clear kc4 ka4 kb4 hq5 S4
                have kc5 := S5.c.1
                have ka5 := S5.a.1
                have kb5 := S5.b.1
                go_wp2_with fail
                refine (quorum_any _ _ lb xs _ S5.b.2.1 S5.one).mono ?_
                rintro e u6 ⟨rfl, hq6⟩
                rw [B1.out]
                have S6 := S5.keep hq6
                clear kc5 ka5 kb5 hq6 S5
                have kc6 := S6.c.1
                have ka6 := S6.a.1
                have kb6 := S6.b.1
                go_wp2_with fail
                refine (quorum_any _ _ l ys _ S6.c.2.1 S6.two).mono ?_
                rintro e u7 ⟨rfl, hq7⟩
                rw [P2.out]
                have S7 := S6.keep hq7
                clear kc6 ka6 kb6 hq7 S6
                have kc7 := S7.c.1
                have ka7 := S7.a.1
                have kb7 := S7.b.1
                go_wp2_with fail
                go_ret
                exact ⟨ret_bool (by simp), S7.from0⟩
end Go.Proofs.Ytmokfpjiibociaa.R
