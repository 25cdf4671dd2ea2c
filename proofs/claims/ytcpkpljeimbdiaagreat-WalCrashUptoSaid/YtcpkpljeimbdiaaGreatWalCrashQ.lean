/-
  WalAl0 + WalFit + WalCrc + DskClone + WalClo + WalCrs + WalScr + WalCrh + WalCrashC.
-/
import Derived.Test.YtcpkpljeimbdiaaGreatWalKpC
import Derived.Test.YtcpkpljeimbdiaaGreatWalKpB
import Derived.Deep.QuietTactic
import Derived.BigQuiet
import Derived.Test.YtcpkpljeimbdiaaGreatWalKpD
import Derived.Test.YtcpkpljeimbdiaaGreatDskCrashM
import Derived.Test.YtcpkpljeimbdiaaGreatMapR
import Derived.Shelf.SlMaps.Clone
import Derived.Deep.Slices
import Derived.Deep.CondSized
import Derived.Test.YtcpkpljeimbdiaaGreatShut
import Derived.JoinedCond
namespace Go.Proofs.YtcpkpljeimbdiaaGreat.W
open Go.RowKit
open Aid K
set_option linter.unusedSimpArgs false
set_option linter.unusedVariables false
theorem al_all0 {w0 W : World} {N g p : Nat} {s : LSt} {st : DSt} (h : ALs w0 W N g p s st) (h0 : 0 ≤ s.first) (h1 : s.first + s.L.length ≤ 4611686018427387904) (h2 : ∀ l ∈ s.L, By8 l) (h3 : s.L.length ≤ 4398046511104) :
    Calls Tryz.prog 10 #[.pointer (some ⟨g, 0, none⟩)] W fun e w' => ∃ v, e = .returned v ∧ OwnS w' W.heap.size v (s.L.map strI) ∧ Below W.heap.size W w' := by
  obtain ⟨O, Q, h⟩ := h
  exact all_any O Q g p s W h.wal h0 h1 h3 h2
end Go.Proofs.YtcpkpljeimbdiaaGreat.W
namespace Go.Proofs.YtcpkpljeimbdiaaGreat.W
open Go.RowKit
open Aid K
set_option linter.unusedSimpArgs false
set_option linter.unusedVariables false
theorem fit_nums {D : Int} {k n m : Nat} (h0 : 0 ≤ D ∧ D ≤ 4611686018427387904) (hm : (m : Int) = D + (n : Int)) (hml : m ≤ 140737488355328) (hk : (k : Int) < (n : Int)) :
    IntKind.i64.wrap (D + (k : Int)) = D + (k : Int) ∧ D + (k : Int) < (m : Int) ∧ 0 ≤ D + (k : Int) ∧ (0 : Int) ≤ (k : Int) ∧ IntKind.i64.wrap (k : Int) = (k : Int) ∧ k + 1 ≤ n ∧ ((n : Int) - ((k : Int) + 1)).toNat < ((n : Int) - (k : Int)).toNat :=
  ⟨IntWalk.i64_in _ (by omega), by omega, by omega, by omega, IntWalk.i64_in _ (by omega), by omega, by omega⟩
def FitsE (f1 f2 : Int) (S U : List ByteArray) : Prop := f1 ≤ f2 ∧ (S.length : Int) = f2 - f1 + U.length ∧ S.drop (f2 - f1).toNat = U
def FitEnd (f1 f2 : Int) (S U : List ByteArray) (w : World) (e : Ending) (w' : World) : Prop := ∃ b, e = .returned (.bool b) ∧ Below w.heap.size w w' ∧ (FitsE f1 f2 S U → b = true)
set_option maxRecDepth 100000 in
set_option maxHeartbeats 1000000 in
theorem fits_gen (f1 f2 : Int) (v u : Value) (S U : List ByteArray) (w : World) (hv : SRow w v S) (hu : SRow w u U) (h1 : 0 ≤ f1 ∧ f1 ≤ 4611686018427387904) (h2 : 0 ≤ f2 ∧ f2 ≤ 4611686018427387904) :
    Calls Tryz.prog 11 #[.int .u64 f1, v, .agg #[.int .u64 f2, u]] w (FitEnd f1 f2 S U w) := by
  obtain ⟨hl, va, vc, rfl, hvc⟩ := hv
  obtain ⟨hl2, ua, uc, rfl, huc⟩ := hu
  obtain ⟨m, hm⟩ : ∃ m, S.length = m := ⟨_, rfl⟩
  obtain ⟨n, hn⟩ : ∃ n, U.length = n := ⟨_, rfl⟩
  rw [hm] at hl ⊢
  rw [hn] at hl2 ⊢
  have HM := Lib.hid hm
  have HN := Lib.hid hn
  have HV := Lib.hid hvc
  have HU := Lib.hid huc
  have hwn : IntKind.u64.wrap (n : Int) = (n : Int) := by rw [IntKind.wrap_u64]; omega
  have hwm : IntKind.u64.wrap (m : Int) = (m : Int) := by rw [IntKind.wrap_u64]; omega
  have hw0 : IntKind.u64.wrap 0 = 0 := by decide
  have hi0 : IntKind.i64.wrap 0 = 0 := by decide
  clear hm hn hvc huc
  go_enter Tryz.func11, Tryz.ntmps11
  by_cases hgt : f2 < f1
  · go_wp2_with fail
    go_ret
    exact ⟨_, rfl, (Below.refl _ _).alloc (Nat.le_refl _) _, fun h => absurd h.1 (by omega)⟩
  obtain ⟨D, hD⟩ : ∃ D, f2 - f1 = D := ⟨_, rfl⟩
  have hwD : IntKind.u64.wrap (f2 - f1) = D := by rw [IntKind.wrap_u64]; omega
  have hwDn : IntKind.u64.wrap (D + (n : Int)) = D + (n : Int) := by rw [IntKind.wrap_u64]; omega
  have hiD : IntKind.i64.wrap D = D := IntWalk.i64_in _ (by omega)
  by_cases hne : ¬ (m : Int) = D + (n : Int)
  · have hne2 : ((m : Int) == D + (n : Int)) = false := by simpa using hne
    have hne3 : ((m : Int) != D + (n : Int)) = true := by simpa using hne
    have hne4 : ((m : Int) != f2 - f1 + (n : Int)) = true := by rw [hD]; exact hne3
    go_wp2_with fail
    all_goals first
      | (go_ret
         refine ⟨_, rfl, (Below.refl _ _).alloc (Nat.le_refl _) _, fun h => absurd h.2.1 ?_⟩
         rw [HM.out, HN.out, hD]
         exact hne)
      | (exfalso; simp_all)
  have hne := Decidable.not_not.1 hne
  have hne2 : ((m : Int) != D + (n : Int)) = false := by simpa using hne
  have hne4 : ((m : Int) != f2 - f1 + (n : Int)) = false := by rw [hD]; exact hne2
  go_wp2_with fail
  obtain ⟨wA, hwA⟩ : ∃ wA, w.alloc (.cells #[.int .u64 f2, .slice ua n uc] 41) = wA := ⟨_, rfl⟩
  have hbA : Below w.heap.size w wA := by rw [← hwA]; exact (Below.refl _ _).alloc (Nat.le_refl _) _
  have hBA : Blk wA w.heap.size 41 #[.int .u64 f2, .slice ua n uc] := by rw [← hwA]; exact Blk.alloc_new _ _ _
  rw [hwA]
  obtain ⟨B, hB⟩ : ∃ B, w.heap.size = B := ⟨_, rfl⟩
  rw [hB] at hBA ⊢
  have HBA := Lib.hid hBA
  have HbA := Lib.hid hbA
  clear hwA hBA hbA
  obtain ⟨d, hd⟩ : ∃ d : Nat, D = (d : Int) := ⟨D.toNat, by omega⟩
  have HNE := Lib.hid (And.intro hne (And.intro hD hd))
  have HDP := Lib.hid (show 0 ≤ D ∧ D ≤ 4611686018427387904 by omega)
  clear hne hne2 hne4 hD hwD hwDn hd
  go_loopw [8] (fun x8 wr => ∃ k : Nat, x8 = .int .i64 k ∧ k ≤ n ∧ Hid (Below wA.heap.size wA wr)) (fun x8 _ => (n - intOf x8).toNat)
  case atStart => exact ⟨0, rfl, Nat.zero_le _, Lib.hid (Below.refl _ _)⟩
  case round =>
    obtain ⟨k, rfl, hk, hbr⟩ := hrel
    have hBr : Blk wr B 41 #[.int .u64 f2, .slice ua n uc] := blk_keep (O := fun _ => False) HBA.out (Keeps.of_below hbr.out) (fun h => h)
    have e0 := hBr.cell 0
    have e1 := hBr.cell 1
    by_cases hlt : (k : Int) < (n : Int)
    · have hmd : m = d + n := by have := HNE.out.1; have := HNE.out.2.2; omega
      have hkn : k < U.length := by rw [HN.out]; omega
      have hkm : d + k < S.length := by rw [HM.out]; omega
      obtain ⟨y, hy⟩ : ∃ y, U[k]? = some y := ⟨_, List.getElem?_eq_getElem hkn⟩
      obtain ⟨x, hx⟩ : ∃ x, S[d + k]? = some x := ⟨_, List.getElem?_eq_getElem hkm⟩
      obtain ⟨b1, o1, rfl, hb1, h1'⟩ := HV.out (d + k) x hx
      obtain ⟨b2, o2, rfl, hb2, h2'⟩ := HU.out k y hy
      have hbw : Below w.heap.size w wr := HbA.out.trans (hbr.out.mono HbA.out.size)
      have c1 : wr.cell? ⟨b1, o1 + (D + (k : Int)).toNat, none⟩ = some (.string x) := by
        rw [show (D + (k : Int)).toNat = d + k by rw [HNE.out.2.2]; omega]
        exact (hbw.cell (p := ⟨b1, o1 + (d + k), none⟩) hb1).trans h1'
      have c2 := (hbw.cell (p := ⟨b2, o2 + k, none⟩) hb2).trans h2'
      obtain ⟨hdk, hdm, hd0, hk0, hkw, hkn1, hdec⟩ := fit_nums HDP.out HNE.out.1 hl hlt
      have HKN := Lib.hid (And.intro hkn1 hdec)
      clear hkn1 hdec
      have HXY := Lib.hid (show (x.toList == y.toList) = false → ¬ FitsE f1 f2 S U from fun hne hf => by
        have h3 := hf.2.2
        rw [HNE.out.2.1, HNE.out.2.2] at h3
        have h4 : (S.drop ((d : Int)).toNat)[k]? = U[k]? := by rw [h3]
        rw [List.getElem?_drop, show ((d : Int)).toNat + k = d + k by simp, hx, hy] at h4
        rw [Option.some.inj h4] at hne
        simp at hne)
      clear hx hy hbw h1' h2' hBr hmd
      have HBR := Lib.hid (And.intro hbr.out (show Below w.heap.size w wA from HbA.out))
      cases hxy : (x.toList == y.toList) with
      | true =>
        go_wp2_with fail
        go_quiet (fail)
        go_wp2_with fail
        exact ⟨⟨k + 1, rfl, HKN.out.1, Lib.hid (hbr.out.trans ((below_drewN (Below.refl _ _) nq).mono hbr.out.size))⟩, HKN.out.2⟩
      | false =>
        go_wp2_with fail
        go_quiet (fail)
        go_wp2_with fail
        go_ret
        exact ⟨_, rfl, HbA.out.trans ((hbr.out.trans ((below_drewN (Below.refl _ _) nq).mono hbr.out.size)).mono HbA.out.size), fun hf => absurd hf (HXY.out hxy)⟩
    · go_wp2_with fail
      go_ret
      exact ⟨_, rfl, HbA.out.trans (hbr.out.mono HbA.out.size), fun _ => rfl⟩
end Go.Proofs.YtcpkpljeimbdiaaGreat.W
namespace Go.Proofs.YtcpkpljeimbdiaaGreat.W
open Go.RowKit
open Aid K
set_option linter.unusedSimpArgs false
set_option linter.unusedVariables false
theorem crash_cnt {st st0 : DSt} {Ns : Int → List Int} {ps : List Int} : ∀ (As : List Int) (x : List Int × DSt), As.Nodup → (∀ a ∈ As, x.2.A a = false) → (∃ la : List Int, la.Nodup ∧ (∀ a ∈ la, x.2.A a = true) ∧ x.2.C ≤ la.length) →
    ∃ la : List Int, la.Nodup ∧ (∀ a ∈ la, (As.foldl (crOut st Ns) x).2.A a = true) ∧ (As.foldl (crOut st Ns) x).2.C ≤ la.length
  | [], x, _, _, h => h
  | a :: As, x, hnd, hA, h => by
    obtain ⟨la, h1, h2, h3⟩ := h
    obtain ⟨n1, n2⟩ := List.nodup_cons.1 hnd
    rw [List.foldl_cons]
    obtain ⟨c, hc⟩ : ∃ c, (Ns a).foldl (crIn (st.F a)) ⟨x.1, fun _ => none, 0, 0⟩ = c := ⟨_, rfl⟩
    have hy : crOut st Ns x a = (c.picks, if c.cnt = 0 then roomF x.2 c.miss else layA (roomF x.2 c.miss) a c.F c.cnt) := by unfold crOut crIns; simp only [hc]
    have ha := hA a (by simp)
    rw [hy]
    by_cases h0 : c.cnt = 0
    · rw [if_pos h0]
      exact crash_cnt (st0 := st0) (ps := ps) As _ n2 (fun b hb => hA b (by simp [hb])) ⟨la, h1, h2, h3⟩
    · rw [if_neg h0]
      refine crash_cnt (st0 := st0) (ps := ps) As _ n2 (fun b hb => ?_) ⟨la ++ [a], List.nodup_append.2 ⟨h1, by simp, fun b hb d hd e => ?_⟩, fun b hb => ?_, ?_⟩
      · show updA x.2.A a true b = false
        unfold updA
        rw [if_neg (fun e => n1 (by rw [← e]; exact hb))]
        exact hA b (by simp [hb])
      · rw [List.mem_singleton] at hd
        subst hd
        subst e
        rw [h2 b hb] at ha
        cases ha
      · show updA x.2.A a true b = true
        unfold updA
        split
        · rfl
        · rename_i hne
          rcases List.mem_append.1 hb with hb | hb
          · exact h2 b hb
          · exact absurd (by simpa using hb) hne
      · show x.2.C + 1 ≤ _
        rw [List.length_append]
        simp only [List.length_cons, List.length_nil]
        omega
theorem Cnt.crash {O : Nat → Prop} {p : Nat} {st : DSt} {w : World} (h : Cnt st) (hP : Pln st) (hD : DiskIs O w p st) (hC : st.C ≤ 4398046511104) (hN : ∀ a, st.N a ≤ 4398046511104) (ps : List Int) :
    Cnt (crashF st (areasL st) (secsL st) ps).2 ∧ (∀ a, (crashF st (areasL st) (secsL st) ps).2.A a = true → st.A a = true) ∧ Calm (crashF st (areasL st) (secsL st) ps).2 := by
  obtain ⟨q1, q2, _, q4, q5, _⟩ := crash_F hD hC hN (fun a ha => wf_u64 (hP.wfa a ha).1 (hP.wfa a ha).2) (fun a n hn => wf_i64 (hP.few a n hn).1 (by have := (hP.few a n hn).2; omega)) ps
  have hsub : ∀ a, (crashF st (areasL st) (secsL st) ps).2.A a = true → st.A a = true := by
    intro a ha
    obtain ⟨n, hn⟩ := (q2 a).1 ha
    refine (hP.pres a).2 ⟨n, ?_⟩
    cases hF : st.F a n with
    | some sc => rfl
    | none => rw [(q1 a n).1 hF] at hn; cases hn
  obtain ⟨xs, hxs⟩ := areas_ex hD hC
  have hAn : (areasL st).Nodup := by rw [← areasL_eq hxs]; exact srt_nodup hxs.1
  exact ⟨⟨fun a ha => h.1 a (hsub a ha), crash_cnt (st0 := st) (ps := ps) _ _ hAn (fun _ _ => rfl) ⟨[], List.nodup_nil, (fun a ha => by cases ha), Nat.le_refl _⟩⟩, hsub, q4, q5⟩
theorem crash_room {st : DSt} {Ns : Int → List Int} : ∀ (As : List Int) (x : List Int × DSt), x.2.room ≤ (As.foldl (crOut st Ns) x).2.room
  | [], x => Int.le_refl _
  | a :: As, x => by
    rw [List.foldl_cons]
    refine Int.le_trans ?_ (crash_room As _)
    unfold crOut
    simp only
    split
    · show x.2.room ≤ x.2.room + _; omega
    · show x.2.room ≤ x.2.room + _; omega
end Go.Proofs.YtcpkpljeimbdiaaGreat.W
namespace Go.Proofs.YtcpkpljeimbdiaaGreat.K
open Go.RowKit Go.Maps
open Aid
set_option linter.unusedSimpArgs false
set_option linter.unusedVariables false
set_option maxRecDepth 100000 in
set_option maxHeartbeats 1000000 in
theorem mclone_any (g : Nat) (es : Array MapEntry) (clock : Nat) (w : World) (hb : w.heap[g]? = some (.map es clock)) :
    Calls Tryz.prog 32 #[.map (some g)] w fun e w' => e = .returned (.map (some w.heap.size)) ∧ w' = w.alloc (.map es clock) := by
  have hq : ∀ w, (binOp .eql 62 (.map (some g)) (.map none)).run Tryz.prog w = .ok (.bool false) w := fun w => run_eql_map_nil_sl w 62 _ _ (some g) Tryz.underlying62
  go_enter Tryz.func32, Tryz.ntmps32
  go_wp2_with fail
  rw [run_callFunc_extern Tryz.func55 (by kernel_rfl) (by kernel_rfl) (by kernel_rfl) (e := Extern.MapsClone.clone) (by kernel_rfl), run_maps_clone_sl w 62 hb]
  simp only [Result.andThen]
  rw [Oper.upon_value]
  go_wp2_with fail
  rw [run_typeAssert_map_sl _ 62 20 _ _ _ Tryz.underlying62]
  simp only [Result.andThen]
  rw [Oper.upon_value]
  go_wp2_with fail
  go_ret
  exact ⟨rfl, rfl⟩
def clonF (st : DSt) (left : Lit → Bool) (k : Nat) : DSt :=
  { st with F := fun a x => if left (.int .u64 a) = true then none else st.F a x, N := fun a => if left (.int .u64 a) = true then 0 else st.N a, A := fun a => if left (.int .u64 a) = true then false else st.A a, C := k }
theorem clon_next {st : DSt} {left : Lit → Bool} {a : Int} {k : Nat} (hA : st.A a = true) : layA (clonF st left k) a (st.F a) (st.N a) = clonF st (fun z => left z && !z.sameKey (.int .u64 a)) (k + 1) := by
  have hs : ∀ y, (Lit.int .u64 y).sameKey (.int .u64 a) = decide (y = a) := fun y => by
    by_cases h : y = a
    · subst h; rw [WideAt.sameKey_self (keyLit_int y)]; simp
    · cases hh : (Lit.int .u64 y).sameKey (.int .u64 a) with
      | false => simp [h]
      | true => exact absurd (WideAt.sameKey_eq hh) (key_int h)
  have h1 : (layA (clonF st left k) a (st.F a) (st.N a)).F = (clonF st (fun z => left z && !z.sameKey (.int .u64 a)) (k + 1)).F := by
    funext y
    show (if y = a then st.F a else fun x => if left (.int .u64 y) = true then none else st.F y x) = fun x => if (left (.int .u64 y) && !(Lit.int .u64 y).sameKey (.int .u64 a)) = true then none else st.F y x
    rw [hs]
    by_cases h : y = a
    · subst h; simp
    · simp [h]
  have h2 : (layA (clonF st left k) a (st.F a) (st.N a)).N = (clonF st (fun z => left z && !z.sameKey (.int .u64 a)) (k + 1)).N := by
    funext y
    show (if y = a then st.N a else if left (.int .u64 y) = true then 0 else st.N y) = if (left (.int .u64 y) && !(Lit.int .u64 y).sameKey (.int .u64 a)) = true then 0 else st.N y
    rw [hs]
    by_cases h : y = a
    · subst h; simp
    · simp [h]
  have h3 : (layA (clonF st left k) a (st.F a) (st.N a)).A = (clonF st (fun z => left z && !z.sameKey (.int .u64 a)) (k + 1)).A := by
    funext y
    show (if y = a then true else if left (.int .u64 y) = true then false else st.A y) = if (left (.int .u64 y) && !(Lit.int .u64 y).sameKey (.int .u64 a)) = true then false else st.A y
    rw [hs]
    by_cases h : y = a
    · subst h; simp [hA]
    · simp [h]
  have e : layA (clonF st left k) a (st.F a) (st.N a) = { clonF st (fun z => left z && !z.sameKey (.int .u64 a)) (k + 1) with F := (layA (clonF st left k) a (st.F a) (st.N a)).F, N := (layA (clonF st left k) a (st.F a) (st.N a)).N, A := (layA (clonF st left k) a (st.F a) (st.N a)).A } := rfl
  rw [e, h1, h2, h3]
theorem MapF.copy {P : Program} {k : TypeId} {q : IntKind} {w w' : World} {b b' : Nat} {f : Int → Option Value} {c : Nat} (h : MapF P k q w b f c) (hb : w'.heap[b']? = w.heap[b]?) : MapF P k q w' b' f c := by
  obtain ⟨D, ⟨es, clock, h1, h2, h3, h4⟩, r⟩ := h
  exact ⟨D, ⟨es, clock, hb.trans h1, h2, h3, h4⟩, r⟩
theorem AreaIs.copy {O : Nat → Prop} {w : World} {g : Nat} {F : Int → Option Sec} {n : Nat} (h : AreaIs O w g F n) : ∃ es clock, w.heap[g]? = some (.map es clock) ∧
    AreaIs (fun x => x = w.heap.size ∨ (O x ∧ StrRow w x)) (w.alloc (.map es clock)) w.heap.size F n := by
  obtain ⟨S, hS, hf⟩ := h
  obtain ⟨es, clock, hb⟩ : ∃ es clock, w.heap[g]? = some (.map es clock) := by
    obtain ⟨D, ⟨es, clock, h1, _⟩, _⟩ := hS
    exact ⟨es, clock, h1⟩
  have hal : Below w.heap.size w (w.alloc (.map es clock)) := (Below.refl _ _).alloc (Nat.le_refl _) _
  refine ⟨es, clock, hb, S, MapF.copy hS ((MapKept.heap_alloc w _).1.trans hb.symm), fun x => ⟨(hf x).1, fun s hs => ?_⟩⟩
  obtain ⟨v, e1, ⟨h0, a, cap, h1, h2, h3, h4⟩, e3⟩ := (hf x).2 s hs
  refine ⟨v, e1, ⟨h0, a, cap, h1, h2, h3, fun j hj => ?_⟩, e3⟩
  obtain ⟨b, o, i1, i2, i3, i4⟩ := h4 j hj
  exact ⟨b, o, i1, ⟨.inr i2, i2.2.of_eq (hal.block b i3)⟩, Nat.lt_of_lt_of_le i3 hal.size, (hal.cell (p := ⟨b, o + j, none⟩) i3).trans i4⟩
theorem DiskIn.attach2 {O Q : Nat → Prop} {w : World} {p m gl c : Nat} {G : Int → Option Nat} {st : DSt} {F : Int → Option Sec} (h : DiskIn O w p m G st) {a : Int} (hg : G a = none) (ha : (Lit.int .u64 a).wf = true) (hc : st.C < maxLen)
    (hA : AreaIs Q w gl F c) (hq : Q gl) (hd : ¬ O gl) (hgm : gl ≠ m) :
    ∃ w', (Instr.mapUpdate 45 (.map (some m)) (.int .u64 a) (.map (some gl))).run Tryz.prog w = .ok () w' ∧
      DiskIn (fun k => O k ∨ Q k) w' p m (fun x => if x = a then some gl else G x) (layA st a F c) ∧ Keeps (fun k => k = m) w w' ∧ w'.heap.size = w.heap.size := by
  obtain ⟨w', hrun, hM, ht⟩ := h.outer.store Tryz.underlying37 Tryz.underlying45 hc ha (.map (some gl))
  refine ⟨w', hrun, ⟨blk_turned h.blk ht, .inl h.op, .inl h.om, ?_, fun x q hx => ?_, fun x y q hx hy => ?_, fun x hx => ?_, fun x => ?_⟩, turned_keeps ht rfl, turned_size ht⟩
  · have e1 : ((fun a => (G a).map fun g => Value.map (some g)) a).isSome = false := by simp [hg]
    rw [e1] at hM
    have e2 : upd (fun a => (G a).map fun g => Value.map (some g)) a (some (.map (some gl))) = fun x => ((if x = a then some gl else G x)).map fun g => Value.map (some g) := by
      funext x; unfold upd; by_cases hx : x = a <;> simp [hx]
    rw [e2] at hM
    exact hM
  · by_cases hxa : x = a
    · subst hxa
      simp only [if_true] at hx
      obtain rfl := Option.some.inj hx
      refine ⟨.inr hq, hgm, ?_⟩
      obtain ⟨S, hS, hf⟩ := hA
      refine ⟨S, ?_, fun y => ?_⟩
      · have e : (layA st x F c).N x = c := by simp [layA, updN]
        rw [e]; exact hS.kept (turned_block ht hgm)
      · have e : (layA st x F c).F x y = F y := by simp [layA]
        rw [e]
        refine ⟨(hf y).1, fun s hs => ?_⟩
        obtain ⟨v', e1, e2, e3⟩ := (hf y).2 s hs
        exact ⟨v', e1, (e2.turned ht).mono (fun k hk => .inr hk), e3⟩
    · simp only [hxa, if_false] at hx
      obtain ⟨oq, qm, S, hS, hf⟩ := h.inner x q hx
      refine ⟨.inl oq, qm, S, ?_, fun y => ?_⟩
      · have e : (layA st a F c).N x = st.N x := by simp [layA, updN, hxa]
        rw [e]; exact hS.kept (turned_block ht qm)
      · have e : (layA st a F c).F x y = st.F x y := by simp [layA, hxa]
        rw [e]
        refine ⟨(hf y).1, fun s hs => ?_⟩
        obtain ⟨v', e1, e2, e3⟩ := (hf y).2 s hs
        exact ⟨v', e1, (e2.turned ht).mono (fun k hk => .inl hk), e3⟩
  · by_cases e1 : x = a
    · by_cases e2 : y = a
      · rw [e1, e2]
      · simp only [e1, if_true] at hx
        simp only [e2, if_false] at hy
        obtain rfl := Option.some.inj hx
        exact absurd (h.inner y _ hy).1 hd
    · simp only [e1, if_false] at hx
      by_cases e2 : y = a
      · simp only [e2, if_true] at hy
        obtain rfl := Option.some.inj hy
        exact absurd (h.inner x _ hx).1 hd
      · simp only [e2, if_false] at hy
        exact h.inj x y q hx hy
  · by_cases e1 : x = a
    · simp only [e1, if_true] at hx; cases hx
    · simp only [e1, if_false] at hx
      obtain ⟨z1, z2⟩ := h.empty x hx
      exact ⟨fun y => by simp [layA, e1, z1], by simp [layA, updN, e1, z2]⟩
  · show updA st.A a true x = _
    unfold updA
    by_cases e1 : x = a
    · simp [e1]
    · simp [e1]; exact h.present x
def CloneEnd (O : Nat → Prop) (st : DSt) (w : World) (e : Ending) (w' : World) : Prop :=
  ∃ c O' k, e = .returned (.pointer (some ⟨c, 0, none⟩)) ∧ DiskIs O' w' c { st with C := k } ∧ k ≤ st.C ∧ (∀ x, O' x → (w.heap.size ≤ x ∧ x < w'.heap.size) ∨ (O x ∧ StrRow w x)) ∧ Below w.heap.size w w'
structure ClIn (O : Nat → Prop) (w : World) (c M r : Nat) (st : DSt) (left : Lit → Bool) (k : Nat) (wr : World) : Prop where
  d : ∃ G', DiskIn (fun x => (w.heap.size ≤ x ∧ x < wr.heap.size ∧ x ≠ r) ∨ (O x ∧ StrRow w x)) wr c M G' (clonF st left k) ∧ ∀ a, left (.int .u64 a) = true → G' a = none
  below : Below w.heap.size w wr
  hc : w.heap.size ≤ c ∧ c < wr.heap.size
  hM : w.heap.size ≤ M ∧ M < wr.heap.size
set_option maxRecDepth 100000 in
set_option maxHeartbeats 4000000 in
theorem clone_any (O : Nat → Prop) (p : Nat) (st : DSt) (w : World) (h : DiskIs O w p st) (hO : ∀ k, O k → k < w.heap.size) (hwf : ∀ a, st.A a = true → (Lit.int .u64 a).wf = true) (hC : st.C ≤ 140737488355327) :
    Calls Tryz.prog 9 #[.pointer (some ⟨p, 0, none⟩)] w (CloneEnd O st w) := by
  obtain ⟨m, G, hD⟩ := h
  have hcs := Blk.cells hD.blk
  unfold diskV at hcs
  obtain ⟨c0, c1, c2, c3, c4⟩ := hD.cells
  have hmk : ∀ w : World, (Instr.makeMap 45 none).run Tryz.prog w = .ok (.map (some w.heap.size)) (w.alloc (.map #[] 0)) := fun w => rfl
  obtain ⟨C, hCq⟩ : ∃ C, w.heap.size = C := ⟨_, rfl⟩
  have HMK := Lib.hid hmk
  go_enter Tryz.func9, Tryz.ntmps9
  go_upto_region 3 with fail
  obtain ⟨W1, hW1⟩ : ∃ W1, (w.alloc (.cells #[.int .i64 st.room, .int .i64 st.steps, .map (some (C + 1)), .int .i64 st.left, .bool st.dead] 47)).alloc (.map #[] 0) = W1 := ⟨_, rfl⟩
  have hb1 : Below w.heap.size w W1 := by rw [← hW1]; exact ((Below.refl _ _).alloc (Nat.le_refl _) _).alloc (by simp) _
  have hz1 : W1.heap.size = C + 2 := by rw [← hW1, ← hCq]; simp
  have bC : Blk W1 C 47 #[.int .i64 st.room, .int .i64 st.steps, .map (some (C + 1)), .int .i64 st.left, .bool st.dead] := by
    rw [← hW1, ← hCq]; exact (Blk.alloc_new _ _ _).below ((Below.refl _ _).alloc (Nat.le_refl _) _) (by simp)
  have mM : MapF Tryz.prog 37 .u64 W1 (C + 1) (fun _ => none) 0 := by
    have := MapF.made (P := Tryz.prog) (k := 37) (q := .u64) Tryz.underlying37 (w.alloc (.cells #[.int .i64 st.room, .int .i64 st.steps, .map (some (C + 1)), .int .i64 st.left, .bool st.dead] 47))
    rw [show (w.alloc (.cells #[.int .i64 st.room, .int .i64 st.steps, .map (some (C + 1)), .int .i64 st.left, .bool st.dead] 47)).heap.size = C + 1 by simp [hCq], hW1] at this
    exact this
  have D1 : DiskIn O W1 p m G st := hD.keep (O' := fun _ => False) (Keeps.of_below hb1) (fun _ _ h => h)
  have hK1 := D1.outer
  obtain ⟨D0, hown0, hsz0, hfD0⟩ := hK1
  obtain ⟨w2, hrange, hr2, hg2, hs2⟩ := hown0.range (Maps.int_keyed Tryz.underlying37) Tryz.underlying45
  obtain ⟨r, hr⟩ : ∃ r, W1.heap.size = r := ⟨_, rfl⟩
  rw [hr] at hrange hr2 hs2
  have hb2 : Below W1.heap.size W1 w2 := ⟨hg2.os, hg2.tape, hg2.output, hg2.size, fun k hk => hg2.block k hk (by simp)⟩
  have hrC : r = C + 2 := by omega
  have k2 : W1.cell? ⟨p, 2, none⟩ = some (.map (some m)) := D1.cells.2.2.1
  have hhas : ∀ a g, G a = some g → Maps.has D0 (.int .u64 a) = true := fun a g hg => by
    have := (hfD0 a (hwf a (by rw [hD.present, hg]; rfl))).1
    simpa [hg] using this
  have hstart : ClIn O w C (C + 1) r st (Maps.has D0) 0 w2 := by
    have e1 : ∀ a x, (if Maps.has D0 (.int .u64 a) = true then none else st.F a x) = (none : Option Sec) := fun a x => by
      split
      · rfl
      · rename_i hh
        cases hg : G a with
        | none => exact (hD.empty a hg).1 x
        | some g =>
          exact absurd (hhas a g hg) hh
    have e2 : ∀ a, (if Maps.has D0 (.int .u64 a) = true then 0 else st.N a) = 0 := fun a => by
      split
      · rfl
      · rename_i hh
        cases hg : G a with
        | none => exact (hD.empty a hg).2
        | some g =>
          exact absurd (hhas a g hg) hh
    have e3 : ∀ a, (if Maps.has D0 (.int .u64 a) = true then false else st.A a) = false := fun a => by
      split
      · rfl
      · rename_i hh
        cases hA : st.A a with
        | false => rfl
        | true =>
          rw [hD.present] at hA
          cases hg : G a with
          | none => rw [hg] at hA; cases hA
          | some g => exact absurd (hhas a g hg) hh
    have hz2 := hb2.size
    refine ⟨⟨fun _ => none, ⟨bC.below hb2 bC.lt, .inl ⟨by omega, by omega, by omega⟩, .inl ⟨by omega, by omega, by omega⟩, ?_, fun a g hg => by (cases hg), fun a a' g hg => by (cases hg), fun a _ => ⟨fun x => e1 a x, e2 a⟩, fun a => e3 a⟩, fun _ _ => rfl⟩, hb1.trans (hb2.mono hb1.size), ⟨by omega, by omega⟩, ⟨by omega, by omega⟩⟩
    exact mM.kept (hb2.block _ (by omega))
  have HSTART := Lib.hid hstart
  have HR2 := Lib.hid hr2
  have HG := Lib.hid (fun a => (hfD0 a))
  have HDD := Lib.hid hD
  rw [hW1]
  have hps : p < w.heap.size := hO p hD.op
  have hms : m < w.heap.size := hO m hD.om
  have HSZ := Lib.hid hsz0
  have HRC := Lib.hid hrC
  have HCQ := Lib.hid hCq
  clear hrC hCq hz1 hsz0 hstart hmk hcs hW1 hb1 bC mM D1 hown0 hhas hfD0 hD hb2 hr2 hg2 c0 c1 c2 c3 c4 hr hs2
  go_wp2_with fail
  go_loopw [4, 5] (fun x4 x5 wr => ∃ (left : Lit → Bool) (cnt k : Nat), wr.ranges Tryz.prog 37 rid m r st.C D0 left cnt ∧ Hid (ClIn O w C (C + 1) r st left k wr) ∧ k + cnt ≤ st.C ∧ Hid (∀ a, (Lit.int .u64 a).wf = true → left (.int .u64 a) = true → ∃ g, G a = some g)) (fun _ _ wr => wr.rangeLeft m r)
  case atStart => exact ⟨_, _, 0, HR2.out, HSTART, by have := HSZ.out; omega, Lib.hid (fun a ha hl => by
    have := (HG.out a ha).1
    rw [hl] at this
    cases hg : G a with
    | none => simp [hg] at this
    | some g => exact ⟨g, rfl⟩)⟩
  case round =>
    obtain ⟨left, cnt, k, hrg, HCL, hkc, HL⟩ := hrel
    clear HSTART HR2 hrange k2
    rcases hrg.next (Maps.int_keyed Tryz.underlying37) 0 with ⟨hc0, hno, hnx⟩ | ⟨key, v, kl, y, w3, cnt', hkey, hlk, hry, hat, hnx, hrg3, hcl, hg3, hs3, hen⟩
    · have HNO := Lib.hid hno
      have HC0 := Lib.hid hc0
      clear hno hc0 hrg
      go_wp2_with fail
      go_ret
      have eL : left = fun _ => false := funext HNO.out
      have hcl := HCL.out
      rw [eL] at hcl
      obtain ⟨⟨G', hd, _⟩, hb, _, _⟩ := hcl
      exact ⟨C, _, k, rfl, ⟨_, G', hd⟩, by omega, fun x hx => hx.elim (fun h => .inl ⟨h.1, h.2.1⟩) .inr, hb⟩
    · obtain ⟨a, rfl, rfl, hxw⟩ := Maps.keyOf_int_inv Tryz.underlying37 hkey
      obtain ⟨g, hg⟩ := HL.out a hxw hlk
      have hv : v = .map (some g) := by
        have h1 := (HG.out a hxw).2 (.bool true)
        rw [hat] at h1
        simp [rid] at hry
        rw [← hry] at h1
        simpa [hg] using h1
      subst hv
      have hcl0 := HCL.out
      have hb0 := hcl0.below
      have hz0 := hb0.size
      have hMC := hcl0.hM
      have hCC := hcl0.hc
      have hrl := hrg.lt
      have hml := hrg.owns.lt
      have hrC := HRC.out
      have hCq := HCQ.out
      have hb03 : Below w.heap.size w w3 := ⟨hg3.os.trans hb0.os, hg3.tape.trans hb0.tape, hg3.output.trans hb0.output, Nat.le_trans hz0 hg3.size, fun x hx => (hg3.block x (by omega) (fun e => by simp only [Option.some.injEq] at e; omega)).trans (hb0.block x hx)⟩
      have hAa : st.A a = true := by rw [HDD.out.present, hg]; rfl
      have D3 : DiskIn O w3.drew p m G st := (HDD.out.keep (O' := fun _ => False) (Keeps.of_below hb03) (fun _ _ h => h)).keep (O' := fun _ => False) (Keeps.of_below ((Below.refl _ _).drew)) (fun _ _ h => h)
      obtain ⟨og, gm, harea⟩ := D3.inner a g hg
      obtain ⟨es, clock, hes, hac⟩ := harea.copy
      obtain ⟨gl, hgl⟩ : ∃ gl, w3.drew.heap.size = gl := ⟨_, rfl⟩
      rw [hgl] at hac
      have hglw : gl = wr.heap.size := by rw [← hgl]; exact hs3
      have K3 : Keeps (fun k => k = r) wr w3 := ⟨hg3.os, hg3.tape, hg3.output, hg3.size, fun k hk hn => hg3.block k hk (by simpa using hn), fun k hk => hg3.block k hk.lt (fun e => by obtain ⟨cs, fr, h5⟩ := hk; simp only [Option.some.injEq] at e; rw [e] at h5; exact ranges_iter hrg h5)⟩
      obtain ⟨G', hdc, hG'⟩ := hcl0.d
      have hd3 := hdc.keep K3 (fun k hk e => by
        have e' : k = r := e
        rcases hk with h | h
        · exact h.2.2 e'
        · have := hO k h.1; omega)
      have sc3 : w3.drew.cell? ⟨C, 2, none⟩ = some (.map (some (C + 1))) := hd3.cells.2.2.1
      obtain ⟨W4, hW4⟩ : ∃ W4, w3.drew.alloc (.map es clock) = W4 := ⟨_, rfl⟩
      have hb34 : Below w3.heap.size w3 W4 := by rw [← hW4]; exact ((Below.refl _ _).drew).alloc (Nat.le_refl _) _
      have hz4 : W4.heap.size = gl + 1 := by rw [← hW4, ← hgl]; simp
      have hd4 := hd3.keep (O' := fun _ => False) (Keeps.of_below hb34) (fun _ _ h => h)
      rw [hW4] at hac
      obtain ⟨w5, hrun5, D5, K5, hz5⟩ := hd4.attach2 (hG' a hlk) hxw (by show k < maxLen; unfold maxLen; omega) hac (.inl rfl) (fun hh => by
        rcases hh with h | h
        · omega
        · have := hO gl h.1; omega) (by omega)
      rw [clon_next hAa] at D5
      have sc4 : W4.cell? ⟨C, 2, none⟩ = some (.map (some (C + 1))) := hd4.cells.2.2.1
      have sc5 : w5.cell? ⟨C, 2, none⟩ = some (.map (some (C + 1))) := D5.cells.2.2.1
      have HES := Lib.hid hes
      have HW4 := Lib.hid hW4
      have HGL := Lib.hid hgl
      have hgl3 : w3.heap.size = gl := hgl
      have hrg5 : w5.ranges Tryz.prog 37 rid m r st.C D0 (fun x => left x && !x.sameKey (.int .u64 a)) cnt' := hrg3.kept (row := some (C + 1)) ⟨K5.os.trans hb34.os, K5.tape.trans hb34.tape, K5.output.trans hb34.output, Nat.le_trans hb34.size K5.size, fun x hx hn => (K5.block x (Nat.lt_of_lt_of_le hx hb34.size) (fun e => hn (by rw [show x = C + 1 from e]))).trans (hb34.block x hx)⟩ (by simp; omega) (by simp; omega)
      have hend : ClIn O w C (C + 1) r st (fun x => left x && !x.sameKey (.int .u64 a)) (k + 1) w5 := by
        have hb05 : Below w.heap.size w w5 := K5.below (hb03.trans (hb34.mono hb03.size)) (by have := hb34.size; have := hb03.size; omega) (fun x hx => by have : x = C + 1 := hx; omega)
        refine ⟨⟨_, D5.mono (fun x hx => ?_), fun a' ha' => ?_⟩, hb05, ⟨by omega, by omega⟩, ⟨by omega, by omega⟩⟩
        · rcases hx with (h | h) | (h | h)
          · exact .inl ⟨h.1, by omega, h.2.2⟩
          · exact .inr h
          · exact .inl ⟨by omega, by omega, by omega⟩
          · exact .inr ⟨h.1, h.2.of_eq (hb03.block x (hO x h.1)).symm⟩
        · show (if a' = a then some gl else G' a') = none
          by_cases e : a' = a
          · subst e
            rw [WideAt.sameKey_self (keyLit_int a')] at ha'
            simp at ha'
          · rw [if_neg e]
            simp at ha'
            exact hG' a' ha'.1
      have HEND := Lib.hid hend
      have HRG5 := Lib.hid hrg5
      have HRG := Lib.hid hrg
      have HCLT := Lib.hid hcl
      clear hend hrg5 hrg hrg3 D5 K5 hd4 hd3 hdc hG' K3 hac harea D3 og gm hb03 hb34 hz4 hz5 hcl0 hb0 hz0 hMC hCC hrl hml hrC hCq hgl hgl3 hglw hs3 hg3 hAa hes hW4 hxw hlk hat hry hkey hcl HCL hg
      go_wp2_with fail
      refine wp_region_noPanic ?_
      refine wp_region_held_drew (S := fun w' => w'.cell? ⟨C, 2, none⟩ = some (.map (some (C + 1)))) (by kernel_rfl) sc3 (fun hHeld => ?_)
      refine wpAnyH_take (i := 0) (v := .pointer (some ⟨C, 2, none⟩)) rfl (by kernel_rfl) (by kernel_rfl) (by kernel_rfl) (fun _ _ _ h => h) (.inl ⟨by rfl, by intro w hSw; go_simp⟩) hHeld ?_
      simp only [Act.put, List.getElem_toArray, List.getElem_cons_succ, List.getElem_cons_zero, List.setIfInBounds_toArray, List.set_cons_zero, List.set_cons_succ]
      refine wpAnyH_take (i := 1) (v := .map (some (C + 1))) rfl (by kernel_rfl) (by kernel_rfl) (by kernel_rfl) (fun _ _ _ h => h) (.inl ⟨by rfl, by intro w hSw; have hx := hSw; go_simp⟩) hHeld ?_
      simp only [Act.put, List.getElem_toArray, List.getElem_cons_succ, List.getElem_cons_zero, List.setIfInBounds_toArray, List.set_cons_zero, List.set_cons_succ]
      refine wpAnyH_take (i := 2) (v := .int .u64 a) rfl (by kernel_rfl) (by kernel_rfl) (by kernel_rfl) (fun _ _ _ h => h) (.inl ⟨by rfl, by intro w hSw; go_simp⟩) hHeld ?_
      simp only [Act.put, List.getElem_toArray, List.getElem_cons_succ, List.getElem_cons_zero, List.setIfInBounds_toArray, List.set_cons_zero, List.set_cons_succ]
      refine wpAnyH_take (i := 3) (v := .map (some g)) rfl (by kernel_rfl) (by kernel_rfl) (by kernel_rfl) (fun _ _ _ h => h) (.inl ⟨by rfl, by intro w hSw; go_simp⟩) hHeld ?_
      simp only [Act.put, List.getElem_toArray, List.getElem_cons_succ, List.getElem_cons_zero, List.setIfInBounds_toArray, List.set_cons_zero, List.set_cons_succ]
      refine wpAnyH_ready (rs := [4]) (by kernel_rfl) (by simp) ?_
      refine AllReadyH.cons rfl (fun K hK => ?_) AllReadyH.nil
      go_simp
      (go_at_call 32; refine (mclone_any g es clock _ HES.out).mono ?_; rintro e w4 ⟨rfl, rfl⟩)
      try rw [HGL.out]
      try rw [HW4.out]
      try go_wp2_with fail
      refine hK.out _ _ sc4 (fun hHeld => ?_)
      clear hK K
      try simp only [Act.put, List.getElem_toArray, List.getElem_cons_succ, List.getElem_cons_zero, List.setIfInBounds_toArray, List.set_cons_zero, List.set_cons_succ]
      refine wpAnyH_ready (rs := [5]) (by kernel_rfl) (by simp) ?_
      refine AllReadyH.cons rfl (fun K hK => ?_) AllReadyH.nil
      go_simp
      refine hK.out _ _ sc5 (fun hHeld => ?_)
      clear hK K
      refine wpAnyH_done (by kernel_rfl) ?_ _
      refine NoPanic.normal ?_
      go_wp2_with fail
      refine ⟨⟨_, _, k + 1, HRG5.out, HEND, by have := HCLT.out; omega, Lib.hid (fun z hz hzz => ?_)⟩, ?_⟩
      · simp at hzz
        exact HL.out z hz hzz.1
      · rw [HRG5.out.left_eq, HRG.out.left_eq]; exact HCLT.out
end Go.Proofs.YtcpkpljeimbdiaaGreat.K
namespace Go.Proofs.YtcpkpljeimbdiaaGreat.W
open Go.RowKit
open Aid K
set_option linter.unusedSimpArgs false
set_option linter.unusedVariables false
theorem rows_below {O : Nat → Prop} {W W1 W2 : World} (hB : Below W.heap.size W W1) (hK : Keeps O W1 W2) (hS : ∀ x, O x → x < W.heap.size → StrRow W x) : Below W.heap.size W W2 :=
  ⟨hK.os.trans hB.os, hK.tape.trans hB.tape, hK.output.trans hB.output, Nat.le_trans hB.size hK.size, fun k hk => by
    by_cases ho : O k
    · exact (hK.rows k ((hS k ho hk).of_eq (hB.block k hk))).trans (hB.block k hk)
    · exact (hK.block k (by have := hB.size; omega) ho).trans (hB.block k hk)⟩
def CloD (w0 W : World) (st : DSt) (e : Ending) (W1 : World) : Prop :=
  ∃ c O k, e = .returned (.pointer (some ⟨c, 0, none⟩)) ∧ k ≤ st.C ∧ DiskIs O W1 c { st with C := k } ∧ (∀ x, O x → x < W1.heap.size ∧ w0.heap.size ≤ x ∧ (x < W.heap.size → StrRow W x)) ∧ Below W.heap.size W W1
theorem dl_clone {w0 W : World} {p : Nat} {st : DSt} (h : DL w0 W p st) (hP : Pln st) (hC : st.C ≤ 140737488355327) :
    Calls Tryz.prog 9 #[.pointer (some ⟨p, 0, none⟩)] W (CloD w0 W st) := by
  obtain ⟨O, h1, h2, h3⟩ := h
  refine (K.clone_any O p st W h1 (fun k hk => (h2 k hk).2) (fun a ha => wf_u64 (hP.wfa a ha).1 (hP.wfa a ha).2) hC).mono ?_
  rintro e W1 ⟨c, O', k, he, hD, hk, hO, hB⟩
  have hs := hB.size
  have hs0 := h3.size
  refine ⟨c, O', k, he, hk, hD, fun x hx => ?_, hB⟩
  rcases hO x hx with h4 | ⟨h4, h5⟩
  · exact ⟨h4.2, by omega, fun hh => by omega⟩
  · have := h2 x h4
    exact ⟨by omega, this.1, fun _ => h5⟩
theorem clo_open {w0 W W1 : World} {p c : Nat} {O : Nat → Prop} {st st' : DSt} {R : Int} {i : Nat} (h : DL w0 W p st) (hD : DiskIs O W1 c st') (hO : ∀ x, O x → x < W1.heap.size ∧ w0.heap.size ≤ x ∧ (x < W.heap.size → StrRow W x)) (hB : Below W.heap.size W W1) (hS : Sects st') (hF : FitS st' R i) (hi : i + 1048600 ≤ 4398046511103) (hC : st'.C ≤ 1048600) (hR : R ≤ 9223372036854775807) (hd : st'.dead = false) :
    Calls Tryz.prog 8 #[.pointer (some ⟨c, 0, none⟩), .int .u64 0, .int .u64 1] W1 fun e W2 => ∃ xs, AreasOf st' xs ∧ Below W.heap.size W W2 ∧ OpD w0 c (opF st' xs 0 1) e W2 := by
  obtain ⟨O0, g1, g2, g3⟩ := h
  refine (open_gen O c st' R i 0 1 W1 hD (fun k hk => (hO k hk).1) hS hF hi hC hR (by decide) (by decide)).mono ?_
  rintro e W2 ⟨xs, hxs, hE⟩
  refine ⟨xs, hxs hd (by decide), ?_⟩
  obtain ⟨r, hr⟩ : ∃ r, opF st' xs 0 1 = r := ⟨_, rfl⟩
  rw [hr] at hE ⊢
  obtain ⟨ro, rs, rc⟩ := r
  obtain ⟨hK, O', hD', hg, hl, hm⟩ := hE
  have hBW := rows_below hB hK (fun x hx => (hO x hx).2.2)
  have hs0 := g3.size
  have hs1 := hB.size
  have hO' : ∀ k, O' k → w0.heap.size ≤ k ∧ k < W2.heap.size := fun k hk => by
    refine ⟨?_, hl k hk⟩
    rcases hg k hk with h4 | h4
    · exact (hO k h4).2.1
    · omega
  have hB0 := g3.trans (hBW.mono hs0)
  refine ⟨hBW, ?_⟩
  unfold OpD
  cases ro with
  | none => exact ⟨hm, O', hD', hO', hB0⟩
  | some s =>
    obtain ⟨g, Q, he, hW, hQ⟩ := hm
    refine ⟨g, he, O', Q, hW, hD', fun k hk => ?_, Nat.le_refl _, hB0⟩
    rcases hk with hk | hk
    · exact hO' k hk
    · obtain ⟨_, _, _, hw⟩ := hW
      have := hQ k hk
      exact ⟨by omega, hw.lt k hk⟩
end Go.Proofs.YtcpkpljeimbdiaaGreat.W
namespace Go.Proofs.YtcpkpljeimbdiaaGreat.W
open Go.RowKit
open Aid K
set_option linter.unusedSimpArgs false
set_option linter.unusedVariables false
theorem textF_C {st : DSt} {k : Nat} (a : Int) (f j : Nat) : textF { st with C := k } a f j = textF st a f j := textF_ext (st := st) (st2 := { st with C := k }) (fun m => rfl) f j
theorem Rdy.setC {st : DSt} {X : List Sg} {v : Option Int} (h : Rdy st X v) (k : Nat) : Rdy { st with C := k } X v :=
  ⟨fun c hc => by rw [textF_C]; exact h.text c hc, fun n hn => by rw [textF_C]; exact h.void n hn, h.asc, h.there, h.conn⟩
theorem Pln.setC {st : DSt} (h : Pln st) (k : Nat) : Pln { st with C := k } := ⟨h.vers, h.few, h.pres, h.wfa⟩
theorem FitS.setC {st : DSt} {R : Int} {i k : Nat} (h : FitS st R i) (hk : k ≤ st.C) : FitS { st with C := k } R i := ⟨h.steps, h.left, h.N, Nat.le_trans hk h.C, h.V, h.room, h.sum⟩
theorem Out.bd {C : List Sg} {l : Option (Sg × Nat)} {X : List Sg} {E K : Int} (h : Out C l X) (hB : Bd (all C l) E K) : Bd X E K := by
  unfold Out at h
  cases l with
  | none =>
    have h : X = C := h
    rw [h]
    have ha : all C none = C := by unfold all; simp
    rw [ha] at hB
    exact hB
  | some y =>
    obtain ⟨c, k⟩ := y
    simp only at h
    obtain ⟨t, _, _, rfl⟩ := h
    have ha : all C (some (c, k)) = C ++ [c] := by unfold all; simp
    rw [ha] at hB
    split
    · exact fun x hx => hB x (List.mem_append_left _ hx)
    · intro x hx
      rcases List.mem_append.1 hx with hx | hx
      · exact hB x (List.mem_append_left _ hx)
      · rw [List.mem_singleton] at hx
        subst hx
        have := hB c (by simp)
        simp only
        have h1 := List.length_take_le (fullR c.bs (t - (putU c.ix).length)) c.bs
        have h2 : (c.bs.take (fullR c.bs (t - (putU c.ix).length))).length ≤ c.bs.length := by rw [List.length_take]; omega
        omega
theorem CutE.crash {T : Nat} {st : DSt} {was : List Lg} {at_ : Int} {O : Nat → Prop} {p : Nat} {w : World} (h : CutE T st was at_) (hT : T ≤ 1048590) (hD : DiskIs O w p st) (ps : List Int) :
    CutB T (crashF st (areasL st) (secsL st) ps).2 ∧ (crashF st (areasL st) (secsL st) ps).2.C ≤ st.C ∧
    ∃ X v, Rdy (crashF st (areasL st) (secsL st) ps).2 X v ∧ Bd X (T + 1) (T + 2) ∧ (∀ n, v = some n → n < T + 2) ∧ ∃ r ∈ was, Suf r (chD 1 X) := by
  have hi : T * 1050400 ≤ 4398046511104 := by omega
  have hC : st.C ≤ 4398046511104 := Nat.le_trans h.fit.C hi
  have hN : ∀ a, st.N a ≤ 4398046511104 := fun a => Nat.le_trans (h.fit.N a) hi
  obtain ⟨q1, q2, q3, q4, q5, q6⟩ := crash_F hD hC hN (fun a ha => wf_u64 (h.pln.wfa a ha).1 (h.pln.wfa a ha).2) (fun a n hn => wf_i64 (h.pln.few a n hn).1 (by have := (h.pln.few a n hn).2; omega)) ps
  obtain ⟨f1, f2⟩ := crash_fit hD h.pln h.fit hi ps
  obtain ⟨c1, c2, c3⟩ := h.cnt.crash h.pln hD hC hN ps
  have hP := h.pln.crash hD hC hN ps
  obtain ⟨C, l, o1, o2, o3⟩ := h.ond
  obtain ⟨X, v, x1, x2, x3⟩ := o1.found q1 h.pln.pres q2 (fun a n hn => (h.pln.few a n hn).1)
  obtain ⟨r, hr, hs⟩ := o2 X x1
  have hb := x1.bd o3
  have hv : ∀ n, v = some n → n < (T : Int) + 2 := fun n hn => by
    subst hn
    obtain ⟨c, hc, rfl⟩ := List.mem_map.1 (x3 n (by simp))
    exact (o3 c hc).2
  have hroom : st.room ≤ (crashF st (areasL st) (secsL st) ps).2.room := Int.le_trans (Int.le_max_left _ _) (crash_room (st := st) (Ns := secsL st) (areasL st) (ps, newSt st.room))
  exact ⟨⟨⟨X, v, x2, hb, hv⟩, hP, c3, f1, c1, Int.le_trans h.room hroom⟩, f2, X, v, x2, hb, hv, r, hr, hs⟩
theorem CutB.clone {T : Nat} {sc : DSt} {X : List Sg} {v : Option Int} {k : Nat} {xs : List Int} (h : CutB T sc) (hT : T ≤ 1048590) (hk : k ≤ sc.C) (hR : Rdy sc X v) (hB : Bd X (T + 1) (T + 2)) (hv : ∀ n, v = some n → n < T + 2) (hx : AreasOf { sc with C := k } xs) :
    ∃ nx st1, opF { sc with C := k } xs 0 1 = (some (logOf 1 X nx), st1, 0) ∧ 0 ≤ (chD 1 X).1 ∧ (chD 1 X).1 + (chD 1 X).2.length ≤ 4611686018427387904 ∧ (∀ b ∈ (chD 1 X).2, By8 b) ∧ (chD 1 X).2.length ≤ 4398046511104 := by
  have hK : ∀ n ∈ X.map (fun c => c.nu) ++ v.toList, n < (T : Int) + 2 := by
    intro n hn
    rcases List.mem_append.1 hn with hn | hn
    · obtain ⟨c, hc, rfl⟩ := List.mem_map.1 hn
      exact (hB c hc).2
    · cases v with
      | none => cases hn
      | some y => simp at hn; subst hn; exact hv n rfl
  have hfr : ∀ n ∈ X.map (fun c => c.nu) ++ v.toList, (0 : Int) ≤ n := by
    intro n hn
    rcases List.mem_append.1 hn with hn | hn
    · obtain ⟨c, hc, rfl⟩ := List.mem_map.1 hn
      exact (hR.text c hc).1.n0
    · cases v with
      | none => cases hn
      | some y => simp at hn; subst hn; exact (hR.void n rfl).1
  obtain ⟨nx, st1, e1, L1, n1, _, _⟩ := (hR.setC k).opens (fr := 0) (d := 1) (K := (T : Int) + 2) (h.pln.setC k) hx h.calm.1 h.calm.2 (by decide) hK (by omega) hfr (by omega)
  have hok : ∀ c ∈ X, SgOk c := fun c hc => (hR.text c hc).1
  have hpos := chD_pos (d := 1) (by decide) X
  have hlen : ((chD 1 X).1 + (chD 1 X).2.length : Int) ≤ T + 1 := by
    by_cases hn : X = []
    · subst hn
      show (1 : Int) + 0 ≤ _
      omega
    · have h1 := chD_end (d := 1) hR.conn hn
      have h2 : endS X ≤ (T : Int) + 1 := endS_le hn (fun c hc => (hB c hc).1)
      have h1' : (chD 1 X).1 + (chD 1 X).2.length = endS X := h1
      omega
  refine ⟨nx, st1, e1, hpos, by omega, chD_by (fun c hc => (hok c hc).by8), by omega⟩
theorem Suf.fits {r x : Lg} (h : Suf r x) : FitsE x.1 r.1 (x.2.map strI) (r.2.map strI) := by
  obtain ⟨h1, h2, h3⟩ := h
  refine ⟨h1, ?_, ?_⟩
  · rw [List.length_map, List.length_map]; omega
  · rw [← List.map_drop, h3]
end Go.Proofs.YtcpkpljeimbdiaaGreat.W
namespace Go.Proofs.YtcpkpljeimbdiaaGreat.W
open Go.RowKit
open Aid K
open Go.ChangeShapes Go.WideShapes
set_option linter.unusedSimpArgs false
set_option linter.unusedVariables false
def WScr (w : World) (v : Value) (m : Nat) (N : Nat → Nat) (V : Nat → Value) (F : Nat → Nat → WOp) : Prop := m ≤ 5864062014805 ∧ ∃ a cap, v = .slice a m cap ∧ ∀ j, j < m → ∃ b o, a = some ⟨b, o, none⟩ ∧ b < w.heap.size ∧
  w.cell? ⟨b, o + j, none⟩ = some (V j) ∧ WOps w (V j) (N j) (F j)
theorem WScr.arg {H : Type} {enc : TypeId × Value → H} {P : Program} {W : World} {b0 : Nat} {t2 t e u : TypeId} {f0 f1 f2 : Field} {v : Value} {d : DataW H} {p : List MemPlace} {r : Reach}
    (ht2 : P.underlying t2 = some (.slice t)) (hc2 : P.cellsOf t = 1) (hb2 : P.bytesOf t = 24)
    (ht : P.underlying t = some (.slice e)) (hs : P.underlying e = some (.struct #[f0, f1, f2])) (hC : P.cellsOf e = 3) (o0 : f0.offset = 0) (o1 : f1.offset = 1) (o2 : f2.offset = 2)
    (c0 : P.cellsOf f0.type = 1) (c1 : P.cellsOf f1.type = 1) (c2 : P.cellsOf f2.type = 1)
    (h0 : P.underlying f0.type = some (.int .i64)) (h1 : P.underlying f1.type = some (.int .i64)) (h3 : P.underlying f2.type = some (.slice u)) (hu : P.underlying u = some (.int .u8)) (hcu : P.cellsOf u = 1)
    (hbe : P.bytesOf e = 40) (hbu : P.bytesOf u = 1) (hval : Value.okWide P W r b0 t2 v)
    (h : DataW.Trod enc P W 0 (fun _ => true) true t2 v d p) (hlt : ∀ x ∈ p, x.block < W.heap.size) (hsize : ∀ x ∈ d.weights P t2, x ≤ reachBytes) :
    ∃ m N V F, WScr W v m N V F ∧ ((m = 0) ∨ ∃ (D : Nat → DataW H) (Pl : Nat → List MemPlace) (sp : List (DataW H)), d = .slice ((List.range m).map D) sp ∧ ∀ j, j < m → DataW.Trod enc P W 0 (fun _ => true) true t (V j) (D j) (Pl j)) := by
  obtain ⟨a0, len, cap, rfl⟩ : ∃ a l c, v = .slice a l c := okWide_slice ht2 hval
  obtain ⟨fuel, hf⟩ := h
  rcases Go.Deep.open_slice1 ht2 hc2 hf with ⟨hcs, hx⟩ | ⟨a', len', cap', m, n, V, D, Pl, hcs, hab, hl, hm, hmm, hx, hel⟩
  · simp [Value.cells] at hcs
    obtain ⟨rfl, rfl, rfl⟩ := hcs
    exact ⟨0, fun _ => 0, fun _ => default, fun _ _ => default, ⟨by omega, none, 0, rfl, fun k hk => by omega⟩, .inl rfl⟩
  · simp [Value.cells] at hcs
    obtain ⟨rfl, rfl, rfl⟩ := hcs
    simp only [if_true] at hmm
    subst hmm
    simp only [Prod.mk.injEq] at hx
    obtain ⟨hd, hp⟩ := hx
    have hn : len * 24 ≤ reachBytes := by
      have := hsize ((((List.range len).map D).length + ((List.range (m - len)).map fun j => D (len + j)).length) * P.bytesOf t) (by rw [hd]; simp [DataW.weights, ht2])
      simp only [List.length_map, List.length_range] at this
      rw [hb2] at this
      omega
    have hrb : reachBytes = 140737488351232 := rfl
    have hform : ∀ j, j < len → ∃ a l c, V j = .slice a l c := fun j hj => by
      rcases Go.Deep.open_slice ht (hel j (by omega)).2 with ⟨hcs, _⟩ | ⟨a2, l2, c2', _, _, _, _, hcs, _⟩
      · simp at hcs; exact ⟨_, _, _, hcs⟩
      · simp at hcs; exact ⟨_, _, _, hcs⟩
    have htr : ∀ j, j < len → DataW.Trod enc P W 0 (fun _ => true) true t (V j) (D j) (Pl j) := fun j hj => by
      obtain ⟨a2, l2, c2', e⟩ := hform j hj
      have h9 := (hel j (by omega)).2
      rw [e] at h9 ⊢
      exact ⟨n, h9⟩
    have hin : ∀ j, ∃ x : Nat × (Nat → WOp), j < len → WOps W (V j) x.1 x.2 := fun j => by
      by_cases hj : j < len
      · have hDm : D j ∈ (List.range len).map D := List.mem_map.2 ⟨j, List.mem_range.2 hj, rfl⟩
        obtain ⟨n2, f2', h9⟩ := WOps.arg0 ht hs hC o0 o1 o2 c0 c1 c2 h0 h1 h3 hu hcu hbe hbu (hform j hj) (htr j hj) (fun x hx => hlt x (by
          rw [hp]
          exact List.mem_append_right _ (List.mem_flatMap.2 ⟨j, List.mem_range.2 (by omega), hx⟩))) (fun x hx => hsize x (by
          rw [hd]
          simp only [DataW.weights, ht2]
          exact List.mem_cons_of_mem _ (List.mem_append_left _ (weights_all_mem hDm hx))))
        exact ⟨(n2, f2'), fun _ => h9⟩
      · exact ⟨(0, fun _ => default), fun h => absurd h hj⟩
    refine ⟨len, fun j => (hin j).choose.1, V, fun j => (hin j).choose.2, ⟨by omega, some a', _, rfl, fun k hk => ?_⟩, .inr ⟨D, Pl, _, hd, htr⟩⟩
    obtain ⟨b, off, spot⟩ := a'
    have hspot : spot = none := by
      have := (hel 0 (by omega)).1
      simpa [Addr.add] using World.cell?_spot this
    subst hspot
    have add : ∀ j, (⟨b, off, none⟩ : Addr).add j = ⟨b, off + j, none⟩ := fun j => by unfold Addr.add; split <;> simp_all
    have i0 := (hel k (by omega)).1
    rw [add] at i0
    exact ⟨b, off, rfl, World.block_lt_of_cell? W _ i0, i0, (hin k).choose_spec hk⟩
end Go.Proofs.YtcpkpljeimbdiaaGreat.W
namespace Go.Proofs.YtcpkpljeimbdiaaGreat.W
open Go.RowKit
open Aid K
set_option linter.unusedSimpArgs false
set_option linter.unusedVariables false
def sumT (N : Nat → Nat) : Nat → Nat
  | 0 => 0
  | j + 1 => sumT N j + (1 + N j)
theorem sumT_le (N : Nat → Nat) : ∀ (m j : Nat), j ≤ m → sumT N j ≤ sumT N m
  | 0, j, h => by have : j = 0 := by omega
                  subst this; exact Nat.le_refl _
  | m + 1, j, h => by
    by_cases e : j = m + 1
    · subst e; exact Nat.le_refl _
    · exact Nat.le_trans (sumT_le N m j (by omega)) (Nat.le_add_right _ _)
def CrI (w : World) (p : Nat) (wr : World) (T : Nat) : Prop := ∃ st, DL w wr p st ∧ CutB T st
theorem DL.bel0 {w0 W : World} {p : Nat} {st : DSt} (h : DL w0 W p st) : Below w0.heap.size w0 W := h.choose_spec.2.2
theorem DL.base {w0 w1 W : World} {p : Nat} {st : DSt} (h : DL w1 W p st) (hb : Below w0.heap.size w0 w1) : DL w0 W p st := by
  obtain ⟨O, h1, h2, h3⟩ := h
  have hs := hb.size
  exact ⟨O, h1, fun k hk => by have := h2 k hk; omega, hb.trans (h3.mono hs)⟩
set_option maxRecDepth 100000 in
set_option maxHeartbeats 8000000 in
theorem crash_law (v : Value) (m : Nat) (N : Nat → Nat) (V : Nat → Value) (F : Nat → Nat → WOp) (at_ : Int) (vp : Value) (ps : List Int) (w : World) (hS : WScr w v m N V F) (hT : sumT N m ≤ 1048576) (hat : (Lit.int .i64 at_).wf = true) (hI : Ints w .i64 vp ps) (hcap : CapV vp) (hps : ∀ y ∈ ps, (Lit.int .i64 y).wf = true) :
    Calls Tryz.prog 3 #[v, .int .i64 at_, vp] w (TrueIn w) := by
  obtain ⟨hm, a0, cap0, hv0, hel0⟩ := hS
  subst hv0
  obtain ⟨va, vc, rfl⟩ := Ints.form hI
  obtain ⟨pn, hpn⟩ : ∃ pn, ps.length = pn := ⟨_, rfl⟩
  rw [hpn]
  rw [hpn] at hcap hI
  have hlen : IntKind.i64.wrap (m : Int) = (m : Int) := IntWalk.i64_in _ (by omega)
  have HE := Lib.hid hel0
  have HI := Lib.hid (And.intro hI (And.intro hcap hps))
  have HPN := Lib.hid hpn
  have HT := Lib.hid hT
  clear hel0 hI hcap hps hpn hT
  go_enter Tryz.func3, Tryz.ntmps3
  go_wp2_with fail
  refine (new_dl (w0 := w) (room := 1073741824) (Below.refl _ _)).mono ?_
  rintro e w1 ⟨p, rfl, D1⟩
  go_wp2_with fail
  refine (alive_any w1).mono ?_
  rintro e w2 ⟨rfl, hb2⟩
  have HST := Lib.hid (show CrI w p w2 (sumT N 0) from ⟨_, D1.below hb2, CutB.new⟩)
  clear D1 hb2
  go_wp2_with fail
  go_loopw [7, 27] (fun x7 x27 wr => ∃ (j q : Nat), x7 = .pointer (some ⟨q, 0, none⟩) ∧ x27 = .int .i64 j ∧ j ≤ m ∧ Hid (CrI w q wr (sumT N j))) (fun _ x27 _ => (m - intOf x27).toNat)
  case atStart => exact ⟨0, p, rfl, rfl, Nat.zero_le _, HST⟩
  case round =>
    clear HST
    obtain ⟨j, q, rfl, rfl, hj, HJ⟩ := hrel
    by_cases hlt : (j : Int) < (m : Int)
    · obtain ⟨b, o, rfl, hb, c0, hO⟩ := HE.out j (by omega)
      obtain ⟨st, hD, hB⟩ := HJ.out
      have hTj := sumT_le N m (j + 1) (by omega)
      have hTm := HT.out
      rw [sumT] at hTj
      obtain ⟨n, hn⟩ : ∃ n, N j = n := ⟨_, rfl⟩
      obtain ⟨T, hTe⟩ : ∃ T, sumT N j = T := ⟨_, rfl⟩
      obtain ⟨sv, hsv⟩ : ∃ sv, V j = sv := ⟨_, rfl⟩
      rw [hn] at hO hTj
      rw [hTe] at hB hTj
      rw [hsv] at c0 hO
      have HNX := Lib.hid (show sumT N (j + 1) = T + (1 + n) by rw [sumT, hn, hTe])
      have hOc := hO
      obtain ⟨sa, sc, rfl, _⟩ := hOc.2
      have hBel := hD.bel0
      have c0' : wr.cell? ⟨b, o + j, none⟩ = some (.slice sa n sc) := (hBel.cell (p := ⟨b, o + j, none⟩) hb).trans c0
      have hwn : IntKind.i64.wrap (n : Int) = (n : Int) := IntWalk.i64_in _ (by omega)
      have HBL := Lib.hid hBel
      have HCUT := Lib.hid (cut_any w wr q T n st at_ _ (F j) hD hB (by omega) hO hat)
      have HTT := Lib.hid (show T + 1 + n ≤ 1048576 by omega)
      clear hn hTe hsv hO hOc hTj hTm c0 hD hB hBel HJ
      by_cases h4 : 400 < (n : Int)
      · go_wp2_with fail
        go_ret
        exact ⟨rfl, HBL.out⟩
      · go_wp2_with fail
        refine HCUT.out.mono ?_
        rintro e w3 ⟨v3, was, st3, rfl, hW3, D3, hE3⟩
        have hB3 := D3.bel0
        have hIW := HI.out.1.below hB3
        have HCR := Lib.hid (dl_crash (R := 1073741824) (i := (T + 1 + n) * 1050400) D3 hE3.fit (by have := HTT.out; omega) (by decide) (by rw [← HPN.out] at hIW ⊢; exact hIW) HI.out.2.1 HI.out.2.2)
        obtain ⟨O3, hO3, _⟩ := D3
        have HF := Lib.hid (hE3.crash (by have := HTT.out; omega) hO3 ps)
        have HW3 := Lib.hid hW3
        have HB3 := Lib.hid hB3
        have HLW := Lib.hid (And.intro hE3.len hE3.lo)
        clear HCUT hW3 hE3 hO3 hIW hB3
        go_wp2_with fail
        refine HCR.out.mono ?_
        rintro e w4 ⟨pc, rfl, D4, hB4⟩
        obtain ⟨sc4, hsc⟩ : ∃ x, (crashF st3 (areasL st3) (secsL st3) ps).2 = x := ⟨_, rfl⟩
        rw [hsc] at D4 HF
        have D4 := D4.base HB3.out
        have hC4 := HF.out.1.C (by have := HTT.out; omega)
        have HD4 := Lib.hid D4
        have HCL := Lib.hid (dl_clone D4 HF.out.1.pln (by omega))
        have HWR4 := Lib.hid (HW3.out.keep (Keeps.of_below (O := fun _ => False) hB4) (fun k _ h => h))
        clear D4 hsc HCR
        go_wp2_with fail
        refine HCL.out.mono ?_
        rintro e w5 ⟨c, Oc, k, rfl, hk, hDc, hOc, hB5⟩
        have HOP := Lib.hid (clo_open (R := 1073741824) (i := (T + 1 + n) * 1050400 + 1) HD4.out hDc hOc hB5 (HF.out.1.pln.setC k).sects (W.FitS.setC HF.out.1.fit hk) (by have := HTT.out; omega) (by show k ≤ _; omega) (by decide) HF.out.1.calm.1)
        clear HCL hDc hOc
        go_wp2_with fail
        refine HOP.out.mono ?_
        rintro e w6 ⟨xs, hx, hB6, hE6⟩
        have HCB := Lib.hid HF.out.1
        obtain ⟨_, _, X, vv, x1, x2, x3, r, hr, hsuf⟩ := HF.out
        obtain ⟨nx, st6, e6, p1, p2, p3, p4⟩ := HF.out.1.clone (by have := HTT.out; omega) hk x1 x2 x3 hx
        rw [e6] at hE6
        have hE6 : ∃ g, e = .returned (.tuple #[.pointer (some ⟨g, 0, none⟩), .int .i64 0]) ∧ ALs w w6 w6.heap.size g c (logOf 1 X nx) st6 := hE6
        obtain ⟨g, rfl, H6⟩ := hE6
        have HFS := Lib.hid (show ∀ w', Below w6.heap.size w6 w' → Calls Tryz.prog 12 #[.pointer (some ⟨g, 0, none⟩)] w' (fun e w2 => e = .returned (.int .u64 (logOf 1 X nx).first) ∧ w2 = w') from fun w' hb => al_first (H6.below hb))
        have HAL := Lib.hid (al_all0 H6 p1 p2 p3 p4)
        have HFT := Lib.hid (And.intro hsuf.fits (And.intro hr (And.intro p1 (And.intro p2 p4))))
        have HD6 := Lib.hid (HD4.out.below hB6)
        have HWR6 := Lib.hid (HWR4.out.keep (Keeps.of_below (O := fun _ => False) hB6) (fun k _ h => h))
        clear e6 hx HOP x1 x2 x3 p1 p2 p3 p4 hsuf hr
        go_wp2_with fail
        refine HAL.out.mono ?_
        rintro e w7 ⟨lv, rfl, hO7, hb7⟩
        have hsr := SRow.of_own hO7 (by rw [List.length_map]; have := HFT.out.2.2.2.2; show (chD 1 X).2.length ≤ _; omega)
        obtain ⟨la, lc, rfl⟩ : ∃ la lc, lv = .slice la ((logOf 1 X nx).L.map strI).length lc := by
          obtain ⟨_, a, c, e, _⟩ := hsr
          exact ⟨a, c, e⟩
        obtain ⟨ln, hln⟩ : ∃ ln, ((logOf 1 X nx).L.map strI).length = ln := ⟨_, rfl⟩
        have HSR := Lib.hid hsr
        have HLN := Lib.hid hln
        obtain ⟨rps, hrp, hrt, hrg⟩ := HWR6.out.keep (Keeps.of_below (O := fun _ => False) hb7) (fun k _ h => h)
        obtain ⟨ra, rc, rfl⟩ := hrg.form
        obtain ⟨rn, hrn⟩ : ∃ rn, rps.length = rn := ⟨_, rfl⟩
        rw [hln]
        rw [hrn] at hrg ⊢
        have HRG := Lib.hid (And.intro hrg (And.intro hrt (And.intro hrp hrn)))
        have HB7 := Lib.hid hb7
        have hrnl : rn ≤ 1048577 := by
          have h1 := HLW.out.1
          have h2 := HTT.out
          rw [← hrp, List.length_map, hrn] at h1
          omega
        have hwr : IntKind.i64.wrap (rn : Int) = (rn : Int) := IntWalk.i64_in _ (by omega)
        clear hsr hln hrp hrt hrg hrn hb7 hO7 HAL HWR6 HWR4 HW3 HF
        go_wp2_with fail
        go_loopw [15, 62] (fun x15 x62 wr2 => ∃ (i : Nat) (fnd : Bool), x15 = .bool fnd ∧ x62 = .int .i64 i ∧ i ≤ rn ∧ Hid (Below w7.heap.size w7 wr2) ∧ Hid ((∃ t, t < i ∧ ∃ z, rps[t]? = some z ∧ z.1 = r) → fnd = true)) (fun _ x62 _ => (rn - intOf x62).toNat)
        case atStart => exact ⟨0, false, rfl, rfl, Nat.zero_le _, Lib.hid (Below.refl _ _), Lib.hid (fun ⟨t, ht, _⟩ => absurd ht (Nat.not_lt_zero _))⟩
        case round =>
          obtain ⟨i, fnd, rfl, rfl, hi, HBI, HFD⟩ := hrel
          by_cases hlt2 : (i : Int) < (rn : Int)
          · have hps : i < rps.length := by rw [HRG.out.2.2.2]; omega
            obtain ⟨z, hz⟩ : ∃ z, rps[i]? = some z := ⟨_, List.getElem?_eq_getElem hps⟩
            obtain ⟨b5, rfl, hb5⟩ : ∃ b5, ra = some ⟨b5, 0, none⟩ ∧ b5 < w7.heap.size := by
              obtain ⟨_, ⟨h1, h2⟩ | ⟨b5, cap, cur, h1, h2, _⟩⟩ := HRG.out.1
              · omega
              · cases h1; exact ⟨b5, rfl, Blk.lt h2⟩
            obtain ⟨k0, k1⟩ := rowC_at rps i z.1 z.2 hz
            have d0 := (HBI.out.cell (p := ⟨b5, i * 2, none⟩) hb5).trans (HRG.out.1.cell k0)
            have d1 := (HBI.out.cell (p := ⟨b5, i * 2 + 1, none⟩) hb5).trans (HRG.out.1.cell k1)
            have htz := HRG.out.2.1 z (List.mem_of_getElem? hz)
            obtain ⟨ua, uc, hzu, _⟩ := htz.form
            obtain ⟨un, hun⟩ : ∃ un, (z.1.2.map strI).length = un := ⟨_, rfl⟩
            obtain ⟨zf, hzf⟩ : ∃ zf, z.1.1 = zf := ⟨_, rfl⟩
            rw [hzu] at htz
            rw [hun] at hzu htz
            rw [hzu] at d1
            rw [hzf] at d0
            have HTZ := Lib.hid (And.intro htz (And.intro hun (And.intro hzf hz)))
            clear k0 k1 hps htz hun hzu hzf hz
            cases fnd with
            | true =>
              go_wp2_with fail
              go_quiet (fail)
              go_wp2_with fail
              exact ⟨⟨i + 1, true, rfl, rfl, by omega, Lib.hid (HBI.out.trans ((below_drewN ((Below.refl _ _).alloc (Nat.le_refl _) _) nq).mono HBI.out.size)), Lib.hid (fun _ => rfl)⟩, by simp only [intOf]; omega⟩
            | false =>
              have hzb : 0 ≤ zf ∧ zf ≤ 4611686018427387904 := by
                have h1 := HLW.out.2 z.1 (by rw [← HRG.out.2.2.1]; exact List.mem_map_of_mem (List.mem_of_getElem? HTZ.out.2.2.2))
                rw [HTZ.out.2.2.1] at h1
                omega
              have hf1 : (logOf 1 X nx).first = (chD 1 X).1 := rfl
              obtain ⟨f1, hf1e⟩ : ∃ f1, (chD 1 X).1 = f1 := ⟨_, rfl⟩
              have hfb : 0 ≤ f1 ∧ f1 ≤ 4611686018427387904 := by
                have h1 := HFT.out.2.2.1
                have h2 := HFT.out.2.2.2.1
                rw [hf1e] at h1 h2
                omega
              obtain ⟨wA, hwA⟩ : ∃ wA, wr.alloc (.cells #[.int .u64 zf, .slice ua un uc] 41) = wA := ⟨_, rfl⟩
              have hbA : Below w7.heap.size w7 wA := by rw [← hwA]; exact HBI.out.trans (((Below.refl _ _).alloc (Nat.le_refl _) _).mono HBI.out.size)
              have hBA : Blk wA wr.heap.size 41 #[.int .u64 zf, .slice ua un uc] := by rw [← hwA]; exact Blk.alloc_new _ _ _
              obtain ⟨B, hB⟩ : ∃ B, wr.heap.size = B := ⟨_, rfl⟩
              rw [hB] at hBA
              have hBl := Blk.lt hBA
              have e0 : wA.cell? ⟨B, 0, none⟩ = some (.int .u64 zf) := hBA.cell 0
              have e1 : wA.cell? ⟨B, 1, none⟩ = some (.slice ua un uc) := hBA.cell 1
              have HCE := Lib.hid (show ∀ w', Below wA.heap.size wA w' → w'.cell? ⟨B, 0, none⟩ = some (.int .u64 zf) ∧ w'.cell? ⟨B, 1, none⟩ = some (.slice ua un uc) ∧ Below w7.heap.size w7 w' from fun w' hb => ⟨(hb.cell (p := ⟨B, 0, none⟩) hBl).trans e0, (hb.cell (p := ⟨B, 1, none⟩) hBl).trans e1, hbA.trans (hb.mono hbA.size)⟩)
              have HFI := Lib.hid (show ∀ w', Below wA.heap.size wA w' → Calls Tryz.prog 12 #[.pointer (some ⟨g, 0, none⟩)] w' (fun e w2 => e = .returned (.int .u64 f1) ∧ w2 = w') from fun w' hb => by
                have h1 := HFS.out w' (HB7.out.trans ((HCE.out w' hb).2.2.mono HB7.out.size))
                rw [hf1, hf1e] at h1
                exact h1)
              have HFE := Lib.hid (show ∀ w', Below wA.heap.size wA w' → Calls Tryz.prog 11 #[.int .u64 f1, .slice la ln lc, .agg #[.int .u64 zf, .slice ua un uc]] w' (FitEnd f1 zf ((logOf 1 X nx).L.map strI) (z.1.2.map strI) w') from fun w' hb => by
                have hbw := (HCE.out w' hb).2.2
                have hs := HSR.out.below hbw
                rw [HLN.out] at hs
                have ht := HTZ.out.1.keep (Keeps.of_below (O := fun _ => False) hbw)
                exact fits_gen f1 zf _ _ _ _ w' hs (TRow.srow ht) hfb hzb)
              have HBA := Lib.hid hbA
              have HFF := Lib.hid hf1e
              clear hbA hBA hzb hfb hf1 hf1e
              go_wp2_with fail
              have hw4s := Nat.le_refl wA.heap.size
              go_region_held3 (fun w' => Below wA.heap.size wA w' ∧ w'.cell? ⟨B, 0, none⟩ = some (.int .u64 zf) ∧ w'.cell? ⟨B, 1, none⟩ = some (.slice ua un uc)) (first | assumption | (exact ⟨Below.refl _ _, e0, e1⟩) | (exact ⟨Below.drew (Below.refl _ _), (HCE.out _ (Below.drew (Below.refl _ _))).1, (HCE.out _ (Below.drew (Below.refl _ _))).2.1⟩)) (first
                | (go_at_call 12; refine (HFI.out _ (And.left (by assumption))).mono ?_; rintro e wz ⟨rfl, rfl⟩)
                | (go_at_call 11; refine (HFE.out _ (And.left (by assumption))).mono ?_; rintro e wx ⟨bo, rfl, hbx, hfe⟩; have hx := (And.left (by assumption) : Below wA.heap.size wA _).trans (hbx.mono (And.left (by assumption) : Below wA.heap.size wA _).size); have kx : Below wA.heap.size wA wx ∧ wx.cell? ⟨B, 0, none⟩ = some (.int .u64 zf) ∧ wx.cell? ⟨B, 1, none⟩ = some (.slice ua un uc) := ⟨hx, (HCE.out _ hx).1, (HCE.out _ hx).2.1⟩))
              all_goals
                go_wp2_with fail
                refine ⟨⟨i + 1, bo, rfl, rfl, by omega, Lib.hid (HCE.out _ hx).2.2, Lib.hid ?_⟩, by simp only [intOf]; omega⟩
                rintro ⟨t, ht, z2, hz2, hr2⟩
                by_cases hti : t < i
                · exact absurd (HFD.out ⟨t, hti, z2, hz2, hr2⟩) (by decide)
                · obtain rfl : t = i := by omega
                  have h1 := HTZ.out.2.2.2
                  rw [hz2] at h1
                  obtain rfl := Option.some.inj h1
                  refine hfe ?_
                  have h2 := HFT.out.1
                  rw [← hr2, HTZ.out.2.2.1, HFF.out] at h2
                  exact h2
          · have hie : i = rn := by omega
            subst hie
            obtain rfl : fnd = true := HFD.out (by
              have h1 := HFT.out.2.1
              rw [← HRG.out.2.2.1] at h1
              obtain ⟨z, hz, hzr⟩ := List.mem_map.1 h1
              obtain ⟨t, ht, e⟩ := List.getElem_of_mem hz
              have h2 := HRG.out.2.2.2
              exact ⟨t, by omega, z, by rw [List.getElem?_eq_getElem ht, e], hzr⟩)
            have hfin := Lib.hid (show CrI w pc _ (sumT N (j + 1)) from ⟨sc4, (HD6.out.below HB7.out).below HBI.out, by rw [HNX.out, show T + (1 + n) = T + 1 + n by omega]; exact HCB.out⟩)
            go_wp2_with fail
            exact ⟨⟨j + 1, pc, rfl, rfl, by omega, hfin⟩, by simp only [intOf]; omega⟩
    · go_wp2_with fail
      obtain ⟨st, hD, _⟩ := HJ.out
      go_ret
      exact ⟨rfl, hD.bel0⟩
end Go.Proofs.YtcpkpljeimbdiaaGreat.W
namespace Go.Proofs.YtcpkpljeimbdiaaGreat.cWalCrash
open Go.ChangeShapes Go.WideShapes Go.ChangeAt Go.RowKit Aid
open Go.ChangeMaps (open_string shut_string)
open K W
set_option linter.unusedVariables false
set_option linter.unusedSimpArgs false
theorem own : ownKnob Tryz.prog.godebug = none := by kernel_rfl
theorem laidOut : laidOutB Tryz.prog = true := by kernel_rfl
theorem readable : ∀ t ∈ Tryz.f3.params.toList, Tryz.prog.readableRec t = true ∧ t < Tryz.prog.types.size := by
  intro t ht
  rw [Tryz.params3] at ht
  simp only [List.mem_cons, List.not_mem_nil, or_false] at ht
  rcases ht with rfl | rfl | rfl
  all_goals exact ⟨by kernel_rfl, of_decide_eq_true (by kernel_rfl)⟩
theorem cells_li : Tryz.prog.cellsOf 3 = 1 := by kernel_rfl
theorem bytes_li : Tryz.prog.bytesOf 3 = 8 := by kernel_rfl
theorem bulk_pos {H : Type} (d : DataW H) : 1 ≤ Rows.uptoBulk d := by
  cases d with
  | lit l => cases l <;> simp [Rows.uptoBulk]
  | _ => simp [Rows.uptoBulk]
theorem bulk_len {H : Type} : ∀ (l : List (DataW H)), l.length ≤ Rows.uptoBulkAll l
  | [] => Nat.zero_le _
  | y :: l => by
    have h1 := bulk_pos y
    have h2 := bulk_len l
    simp only [Rows.uptoBulkAll, List.length_cons]
    omega
theorem ops_bulk {H : Type} {enc : TypeId × Value → H} {W : World} {v : Value} {d : DataW H} {p : List MemPlace} {n : Nat} {f : Nat → WOp}
    (h : DataW.Trod enc Tryz.prog W 0 (fun _ => true) true 27 v d p) (hO : WOps W v n f) : 1 + n ≤ Rows.uptoBulk d := by
  obtain ⟨a0, cap, hv, _⟩ := hO.2
  subst hv
  obtain ⟨fuel, hf⟩ := h
  rcases Go.Deep.open_slice Tryz.underlying27 hf with ⟨hcs, hx⟩ | ⟨a', len', cap', m, n', D, Pl, hcs, hab, hl, hm, hmm, hx, hel⟩
  · simp [Value.cells] at hcs
    have := bulk_pos d
    omega
  · simp [Value.cells] at hcs
    obtain ⟨rfl, rfl, rfl⟩ := hcs
    simp only [Prod.mk.injEq] at hx
    rw [hx.1]
    simp only [Rows.uptoBulk]
    have := bulk_len ((List.range n).map D)
    simp only [List.length_map, List.length_range] at this
    omega
theorem bulk_app {H : Type} : ∀ (l : List (DataW H)) (x : DataW H), Rows.uptoBulkAll (l ++ [x]) = Rows.uptoBulkAll l + Rows.uptoBulk x
  | [], x => by simp [Rows.uptoBulkAll]
  | y :: l, x => by
    have h := bulk_app l x
    simp only [List.cons_append, Rows.uptoBulkAll, h]
    omega
theorem scr_bulk {H : Type} {enc : TypeId × Value → H} {W : World} {v : Value} {d : DataW H} {m : Nat} {N : Nat → Nat} {V : Nat → Value} {F : Nat → Nat → WOp}
    (hS : WScr W v m N V F) (h : m = 0 ∨ ∃ (D : Nat → DataW H) (Pl : Nat → List MemPlace) (sp : List (DataW H)), d = .slice ((List.range m).map D) sp ∧ ∀ j, j < m → DataW.Trod enc Tryz.prog W 0 (fun _ => true) true 27 (V j) (D j) (Pl j)) : sumT N m ≤ Rows.uptoBulk d := by
  rcases h with rfl | ⟨D, Pl, sp, rfl, hT⟩
  · exact Nat.zero_le _
  · obtain ⟨_, a, cap, _, hel⟩ := hS
    have key : ∀ j, j ≤ m → sumT N j ≤ Rows.uptoBulkAll ((List.range j).map D) := by
      intro j
      induction j with
      | zero => intro _; exact Nat.zero_le _
      | succ j ih =>
        intro hj
        obtain ⟨_, _, _, _, _, hO⟩ := hel j (by omega)
        have h1 := ops_bulk (hT j (by omega)) hO
        have h2 := ih (by omega)
        rw [List.range_succ, List.map_append, List.map_singleton, bulk_app, sumT]
        omega
    have := key m (Nat.le_refl _)
    simp only [Rows.uptoBulk]
    omega
theorem arg_cap {H : Type} {enc : TypeId × Value → H} {P : Program} {W : World} {base : Nat} {sp : Nat → Bool} {held : Bool} {t e : TypeId} {v : Value} {d : DataW H} {p : List MemPlace}
    (ht : P.underlying t = some (.slice e)) (h : DataW.Trod enc P W base sp held t v d p) {a : Option Addr} {len cap : Nat} (hv : v = .slice a len cap) : len ≤ cap := by
  obtain ⟨fuel, hf⟩ := h
  subst hv
  rcases DataW.trod_slice ht hf with ⟨hcs, _⟩ | ⟨a', len', cap', _, _, _, _, hcs, _, _, hl, _⟩
  · simp [Value.cells] at hcs; omega
  · simp [Value.cells] at hcs; omega
set_option maxRecDepth 100000 in
theorem contract (H : Type) (enc : TypeId × Value → H) (W : World) (base : Nat) (args : Array Value) (ds gs : List (DataW H)) (before : List MemPlace)
    (hval : ∀ (j : Nat) t v, Tryz.f3.params[j]? = some t → args[j]? = some v → Value.okWide Tryz.prog W .any base t v)
    (hW : DataW.Whole enc Tryz.prog Tryz.f3.params.toList Rows.walCrashSpec.vars false W args.toList ds gs before) (hk : Rows.uptoSmall H (ds ++ gs) = true)
    (hsz : (DataW.weightsEach Tryz.prog (Tryz.f3.params.toList ++ []) (ds ++ gs)).all (· ≤ reachBytes) = true) :
    Calls Tryz.prog 3 args W fun e W' => ∃ v, e = .returned v ∧ Rows.walCrashSpec.post enc Tryz.prog Tryz.f3 false true false false W args v W' := by
  have hW' := hW
  obtain ⟨p, q, hA0, hV, rfl, hfz, hnd⟩ := hW
  have hA : DataW.TrodAll enc Tryz.prog W 0 (fun _ => true) true Tryz.f3.params.toList args.toList ds p := hA0
  have hlt : ∀ x ∈ p, x.block < W.heap.size := fun x hx => by simpa using hW'.lt x (by simp [hx])
  rw [Tryz.params3] at hA hval hsz
  obtain ⟨v0, vs0, d0, ds0, p0, q0, hargs, rfl, rfl, h0, r0⟩ := trodAll_cons hA
  obtain ⟨v1, vs1, d1, ds1, p1, q1, rfl, rfl, rfl, h1, r1⟩ := trodAll_cons r0
  obtain ⟨v2, vs2, d2, ds2, p2, q2, rfl, rfl, rfl, h2, r2⟩ := trodAll_cons r1
  obtain ⟨rfl, rfl, rfl⟩ := trodAll_nil r2
  obtain rfl : args = #[v0, v1, v2] := by cases args; simp_all
  obtain ⟨rfl, rfl⟩ := trodVars_none hV
  clear hA0
  have cO : Tryz.prog.cellsOf 55 = 3 := by kernel_rfl
  have bO : Tryz.prog.bytesOf 55 = 40 := by kernel_rfl
  have bU : Tryz.prog.bytesOf 5 = 1 := by kernel_rfl
  obtain ⟨m, N, V, F, hScr, hBulk⟩ := WScr.arg Tryz.underlying22 (by kernel_rfl) (by kernel_rfl) Tryz.underlying27 Tryz.underlying55 cO rfl rfl rfl (by kernel_rfl) (by kernel_rfl) (by kernel_rfl) Tryz.underlying3 Tryz.underlying3 Tryz.underlying49 Tryz.underlying5 (by kernel_rfl) bO bU (hval 0 22 v0 rfl rfl) h0 (fun x hx => hlt x (by simp [hx])) (fun x hx => by
    have := List.all_eq_true.1 hsz x (DataW.weights_mem_each (j := 0) (t := 22) rfl rfl x hx)
    simpa using this)
  obtain ⟨at_, rfl, rfl, rfl, wat_⟩ := open_int Tryz.underlying3 (hval 1 3 v1 rfl rfl) h1
  obtain ⟨picks, hIpicks, hwpicks, hdpicks⟩ := arg_ints (k := .i64) Tryz.underlying23 Tryz.underlying3 cells_li (hval 2 23 v2 rfl rfl) h2 (fun x hx => hlt x (by simp [hx])) (fun elems spare hd => by
    subst hd
    have := sized_slice hsz (j := 2) (t := 23) (e := 3) rfl rfl Tryz.underlying23
    rw [bytes_li] at this
    simp only [reachBytes] at this
    omega)
  have hnpicks : picks.length * 8 ≤ 140737488351232 := by
    rcases hdpicks with ⟨_, rfl⟩ | ⟨spare, hd⟩
    · simp
    · subst hd
      have := sized_slice hsz (j := 2) (t := 23) (e := 3) rfl rfl Tryz.underlying23
      rw [bytes_li] at this
      simp only [reachBytes, lits, List.length_map] at this
      omega
  have hk1 : Rows.uptoBulkAll _ ≤ 1048576 := of_decide_eq_true hk
  simp only [Rows.uptoBulkAll, Rows.uptoBulk, List.cons_append, List.nil_append, List.append_nil] at hk1
  obtain ⟨va, vc, hv2⟩ := Ints.form hIpicks
  have hcap := arg_cap Tryz.underlying23 h2 hv2
  subst hv2
  have hb1 := scr_bulk hScr hBulk
  refine (crash_law v0 m N V F at_ (.slice va picks.length vc) picks W hScr (by omega) wat_ hIpicks hcap hwpicks).mono fun e W' ⟨he, hb⟩ => ⟨_, he, law_post 4 laidOut readable rfl Tryz.underlying4 rfl rfl hW' hb⟩
set_option maxRecDepth 100000 in
theorem lifted (os : Os) (started : os.Started) (H : Type) (enc : TypeId × Value → H) (F : Stop.Interp) :
    ReturnsInHanded {} Tryz.checked os 3 .any ((Rows.OpenSpec.upto Rows.walCrashSpec).pre6 enc Tryz.prog Tryz.f3 Rows.walCrashUptoRow.domain false) (((Rows.OpenSpec.upto Rows.walCrashSpec).at F).post enc Tryz.prog Tryz.f3 false true false false) := by
  refine returnsInHanded_of_cond_sized (C := Tryz.checked) (s := Rows.OpenSpec.upto Rows.walCrashSpec) (k := Rows.uptoSmall) rfl own started (by kernel_rfl) Tryz.func3
    (OpenSpec.witness (enc := enc) (C := Tryz.checked) (s := Rows.OpenSpec.upto Rows.walCrashSpec) (k := Rows.uptoSmall) rfl false ⟨#[], #[.slice none 0 0, .int .i64 0, .slice none 0 0], []⟩ 8 (by kernel_rfl) (by kernel_rfl) (by kernel_rfl)
      (x := ([.nil, .lit (.int .i64 0), .nil], [], [])) (by kernel_rfl) rfl (by kernel_rfl)) ?_
  intro W base args ds gs before hval hW _ hk hsz _
  exact contract H enc W base args ds gs before hval hW hk hsz
theorem said : Rows.WalCrashUptoSaid :=
  OpenClaim.holds_of_cond 3 Tryz.f3 rfl rfl rfl rfl rfl rfl rfl ⟨rfl, rfl, rfl, rfl, rfl⟩ rfl rfl rfl rfl rfl (by kernel_rfl) Tryz.func3 (by kernel_rfl)
    (of_decide_eq_true (by kernel_rfl)) (by unfold Func.isWrapper; first | (rw [if_pos (by decide +kernel)]; kernel_rfl) | (rw [if_neg (by decide +kernel)]; exact ⟨rfl, rfl⟩))
    (fun os started H enc _ F => lifted os started H enc F)
end Go.Proofs.YtcpkpljeimbdiaaGreat.cWalCrash
