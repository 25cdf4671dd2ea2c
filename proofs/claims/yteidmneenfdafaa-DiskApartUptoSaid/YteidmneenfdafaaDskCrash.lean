/-
  The walk of Crash.
-/
import Derived.Test.YteidmneenfdafaaDskCrashM
import Derived.Test.YteidmneenfdafaaDskNew
namespace Go.Proofs.Yteidmneenfdafaa.K
open Go.RowKit Go.Maps
open Aid
set_option linter.unusedSimpArgs false
set_option linter.unusedVariables false

set_option maxRecDepth 100000 in
theorem keysI_any (mb : Option Nat) (w : World) : Calls Try.prog 43 #[.map mb] w fun e w' => e = .returned (.func (.func 54) #[] #[.pointer (some ⟨w.heap.size, 0, none⟩)]) ∧ w' = w.alloc (.cells #[.map mb] 68) := by
  go_enter Try.func43, Try.ntmps43
  go_wp2_with fail
  go_ret
  exact ⟨rfl, rfl⟩
/-- a slice of sorted numbers, written out -/
theorem form_U {w w' : World} {v : Value} {xs : List Int} (h : QU.SortedAt w w' v xs) : ∃ ad cap, v = .slice ad xs.length cap ∧ (∃ g, (xs ≠ [] → ad = some ⟨g, 0, none⟩ ∧ w.heap.size ≤ g ∧ QU.Row w' g xs.toArray) ∧ (w.heap.size ≤ g)) := by
  rcases h with ⟨rfl, rfl⟩ | ⟨g, cap, rfl, h1, h2, h3⟩
  · exact ⟨none, 0, rfl, w.heap.size, fun h => absurd rfl h, Nat.le_refl _⟩
  · exact ⟨_, cap, rfl, g, fun _ => ⟨rfl, h1, h3⟩, h1⟩
theorem form_I {w w' : World} {v : Value} {xs : List Int} (h : QI.SortedAt w w' v xs) : ∃ ad cap, v = .slice ad xs.length cap ∧ (∃ g, (xs ≠ [] → ad = some ⟨g, 0, none⟩ ∧ w.heap.size ≤ g ∧ QI.Row w' g xs.toArray) ∧ (w.heap.size ≤ g)) := by
  rcases h with ⟨rfl, rfl⟩ | ⟨g, cap, rfl, h1, h2, h3⟩
  · exact ⟨none, 0, rfl, w.heap.size, fun h => absurd rfl h, Nat.le_refl _⟩
  · exact ⟨_, cap, rfl, g, fun _ => ⟨rfl, h1, h3⟩, h1⟩
theorem rowU_keep {O : Nat → Prop} {w w' : World} {g : Nat} {d : Array Int} (h : QU.Row w g d) (hk : Keeps O w w') (hg : ¬ O g) : QU.Row w' g d := by
  obtain ⟨rest, h⟩ := h
  refine ⟨rest, ?_⟩
  have hl := Blk.lt h
  unfold Blk at h ⊢
  rw [hk.block g hl hg]; exact h
theorem rowI_keep {O : Nat → Prop} {w w' : World} {g : Nat} {d : Array Int} (h : QI.Row w g d) (hk : Keeps O w w') (hg : ¬ O g) : QI.Row w' g d := by
  obtain ⟨rest, h⟩ := h
  refine ⟨rest, ?_⟩
  have hl := Blk.lt h
  unfold Blk at h ⊢
  rw [hk.block g hl hg]; exact h
theorem ints_tail {w : World} {k : IntKind} {b o n c : Nat} {l : List Int} (h : Ints w k (.slice (some ⟨b, o, none⟩) (n + 1) c) l) : Ints w k (.slice (some ⟨b, o + 1, none⟩) n (c - 1)) l.tail := by
  obtain ⟨h0, ⟨rfl, h1⟩ | ⟨b', o', c', hv, hlt, hc⟩⟩ := h
  · rcases h1 with h1 | ⟨_, _, h1⟩ <;> simp at h1
  · simp only [Value.slice.injEq, Option.some.injEq, Addr.mk.injEq] at hv
    obtain ⟨⟨rfl, rfl, _⟩, hn, rfl⟩ := hv
    refine ⟨by rw [List.length_tail]; omega, .inr ⟨b, o + 1, c - 1, by rw [List.length_tail, ← hn]; rfl, hlt, fun j hj => ?_⟩⟩
    rw [List.length_tail] at hj
    have := hc (j + 1) (by omega)
    rw [show o + 1 + j = o + (j + 1) by omega, this]
    cases l with
    | nil => simp at hn
    | cons x l => rfl
theorem vers_new (w : World) (V : ByteArray) : Vers (fun k => k = w.heap.size) (w.alloc (.cells #[.string V] 9)) (.slice (some ⟨w.heap.size, 0, none⟩) 1 1) [V] := by
  refine ⟨by simp, some ⟨w.heap.size, 0, none⟩, 1, rfl, Nat.le_refl 1, fun e => (nomatch e), fun j hj => ⟨w.heap.size, 0, rfl, ⟨rfl, ⟨_, _, Blk.alloc_new _ _ _⟩⟩, by simp, ?_⟩⟩
  have hj0 : j = 0 := by simpa using hj
  subst hj0
  exact cell_new _ _ _ _ rfl
theorem room_turn {O : Nat → Prop} {w : World} {p : Nat} {st : DSt} {k : Nat} (h : DiskIs O w p (roomF st k)) : DiskIs O (w.setCell ⟨p, 0, none⟩ (.int .i64 (st.room + (k : Nat) + 1))) p (roomF st (k + 1)) ∧ Keeps (fun k => k = p) w (w.setCell ⟨p, 0, none⟩ (.int .i64 (st.room + (k : Nat) + 1))) ∧ w.cell? ⟨p, 0, none⟩ = some (.int .i64 (st.room + (k : Nat))) ∧ w.frozen? ⟨p, 0, none⟩ = false ∧ O p := by
  obtain ⟨m, G, hD⟩ := h
  refine ⟨⟨m, G, hD.turn (st' := roomF st (k + 1)) ?_ (fun q hq => ?_) (World.size_setCell _ _ _) rfl rfl rfl rfl⟩, set_keeps (Keeps.refl _ _) rfl (StrRow.no_blk hD.blk (by decide)), hD.cells.1, Blk.free hD.blk 0, hD.op⟩
  · have := hD.blk.set 0 (.int .i64 (st.room + (k : Nat) + 1))
    have e : (diskV (roomF st k) m).setIfInBounds 0 (.int .i64 (st.room + (k : Nat) + 1)) = diskV (roomF st (k + 1)) m := by
      unfold diskV roomF
      simp
      omega
    rw [e] at this
    exact this
  · show (w.heap.modify p _)[q]? = _
    rw [Array.getElem?_modify, if_neg (fun e => hq e.symm)]
/-- a slice is no longer than its room -/
def CapV : Value → Prop
  | .slice _ n c => n ≤ c
  | _ => True
/-- what the outer loop keeps -/
structure CrO (W0 : World) (st : DSt) (As : List Int) (ps : List Int) (g pc i : Nat) (vp : Value) (x : List Int × DSt) (Oc : Nat → Prop) (w : World) : Prop where
  fold : x = (As.take i).foldl (crOut st (secsL st)) (ps, newSt st.room)
  ints : Ints W0 .i64 vp x.1
  cap : CapV vp
  wfs : ∀ y ∈ x.1, (Lit.int .i64 y).wf = true
  d : DiskIs Oc w pc x.2
  o : ∀ k, Oc k → W0.heap.size ≤ k ∧ k < w.heap.size ∧ k ≠ g
  row : As ≠ [] → QU.Row w g As.toArray
  below : Below W0.heap.size W0 w
  C : x.2.C ≤ i
  room : x.2.room ≤ st.room + (((As.take i).map st.N).sum : Nat)
  room0 : 0 ≤ x.2.room
  none_ : ∀ a, a ∉ As.take i → x.2.A a = false

theorem DiskIn.sector1 {O : Nat → Prop} {w : World} {p m : Nat} {G : Int → Option Nat} {st : DSt} (h : DiskIn O w p m G st) {a n : Int} (hn : (Lit.int .i64 n).wf = true) {s : Sec} (hF : st.F a n = some s) :
    ∃ v, (Instr.lookup 68 (.map (G a)) (.int .i64 n) false).run Try.prog w = .ok (.agg #[v, .bool s.2]) w ∧ Vers O w v s.1 ∧ s.1 ≠ [] := by
  cases hg : G a with
  | none => have := (h.empty a hg).1 n; rw [hF] at this; cases this
  | some g =>
    obtain ⟨_, _, S, hS, hf⟩ := h.inner a g hg
    have hl := hS.get Try.underlying3 Try.underlying68 (zero_sector w) hn
    obtain ⟨v, e1, e2, e3⟩ := (hf n).2 s hF
    rw [e1] at hl
    exact ⟨v, hl, e2, e3⟩
theorem useF_eq (s : Sec) (ps : List Int) : useF s ps = (decide ((0 : Int) < (ps.length : Int)) && (!s.2 || decide ((1 : Int) < (s.1.length : Int)))) := by
  unfold useF
  congr 1
  · cases ps <;> simp
  · congr 1
    exact decide_eq_decide.2 (by omega)
/-- what the inner loop keeps -/
structure CrI (W0 : World) (st : DSt) (a : Int) (As Ns ps : List Int) (x2 : DSt) (g g2 gl pc j : Nat) (u : Value) (c : Cr) (Oc Oin : Nat → Prop) (w : World) : Prop where
  fold : c = (Ns.take j).foldl (crIn (st.F a)) ⟨ps, fun _ => none, 0, 0⟩
  ints : Ints W0 .i64 u c.picks
  cap : CapV u
  wfs : ∀ y ∈ c.picks, (Lit.int .i64 y).wf = true
  area : AreaIs Oin w gl c.F c.cnt
  ogl : Oin gl
  d : DiskIs Oc w pc (roomF x2 c.miss)
  oc : ∀ k, Oc k → W0.heap.size ≤ k ∧ k < w.heap.size ∧ k ≠ g ∧ k ≠ g2
  oin : ∀ k, Oin k → W0.heap.size ≤ k ∧ k < w.heap.size ∧ k ≠ g ∧ k ≠ g2 ∧ ¬ Oc k
  row : QU.Row w g As.toArray
  rowi : Ns ≠ [] → QI.Row w g2 Ns.toArray
  below : Below W0.heap.size W0 w
  cnt : c.cnt ≤ j
  miss : c.miss ≤ j
  none_ : ∀ n, n ∉ Ns.take j → c.F n = none
theorem CrI.low {W0 w w' : World} {st : DSt} {a : Int} {As Ns ps : List Int} {x2 : DSt} {g g2 gl pc j : Nat} {u : Value} {c : Cr} {Oc Oin : Nat → Prop} (h : CrI W0 st a As Ns ps x2 g g2 gl pc j u c Oc Oin w) (hb : Below w.heap.size w w') : CrI W0 st a As Ns ps x2 g g2 gl pc j u c Oc Oin w' :=
  ⟨h.fold, h.ints, h.cap, h.wfs, h.area.keep (O' := fun _ => False) h.ogl (Keeps.of_below hb) (fun _ _ h => h), h.ogl, h.d.below hb, fun k hk => by have := h.oc k hk; have := hb.size; omega, fun k hk => by obtain ⟨z1, z2, z3, z4, z5⟩ := h.oin k hk; have := hb.size; exact ⟨z1, by omega, z3, z4, z5⟩, h.row.below hb, fun hne => (h.rowi hne).below hb, h.below.trans (hb.mono h.below.size), h.cnt, h.miss, h.none_⟩

set_option maxRecDepth 100000 in
set_option maxHeartbeats 16000000 in
theorem crash_any (O : Nat → Prop) (p : Nat) (st : DSt) (vp : Value) (ps : List Int) (w : World) (h : DiskIs O w p st) (hI : Ints w .i64 vp ps) (hcap : CapV vp) (hps : ∀ y ∈ ps, (Lit.int .i64 y).wf = true) (hO : ∀ k, O k → k < w.heap.size) (hC : st.C ≤ 4398046511000) (hN : ∀ a, st.N a ≤ 4398046511104) (hV : ∀ a n Lv sb, st.F a n = some (Lv, sb) → Lv.length < 4398046511104) (hroom : 0 ≤ st.room) (hsum : ∀ la : List Int, la.Nodup → st.room + ((la.map st.N).sum : Nat) ≤ 9223372036854775807) :
    Calls Try.prog 26 #[.pointer (some ⟨p, 0, none⟩), vp] w fun e w' => ∃ pc Oc, e = .returned (.pointer (some ⟨pc, 0, none⟩)) ∧ DiskIs Oc w' pc (crashF st (areasL st) (secsL st) ps).2 ∧ (∀ k, Oc k → w.heap.size ≤ k ∧ k < w'.heap.size) ∧ Below w.heap.size w w' := by
  have hdisk := h
  obtain ⟨m, G, hD⟩ := h
  obtain ⟨c0, c1, c2, c3, c4⟩ := hD.cells
  obtain ⟨va, vc, rfl⟩ := Ints.form hI
  go_enter Try.func26, Try.ntmps26
  go_wp2_with fail
  refine (new_fine st.room w).mono ?_
  rintro e w1 ⟨pc, Oc, rfl, hDc, hOc, hb1⟩
  have hs1 := hb1.size
  go_wp2_with fail
  refine (areas_any O p st w1 (hdisk.below hb1) (by omega)).mono ?_
  rintro e w2 ⟨vA, xs, rfl, ⟨hxs, hxl⟩, hSA, hb2⟩
  obtain ⟨As, hAs⟩ : ∃ As, QU.srt xs = As := ⟨_, rfl⟩
  have hAs2 : As = areasL st := by rw [← hAs, srtU_eq]; exact areasL_eq hxs
  have hAl : As.length ≤ 4398046511000 := by rw [← hAs, srtU_eq]; unfold QI.srt; rw [List.length_mergeSort]; omega
  have hAn : As.Nodup := by rw [← hAs, srtU_eq]; exact srt_nodup hxs.1
  have hAm : ∀ x ∈ As, (Lit.int .u64 x).wf = true ∧ st.A x = true := fun x hx => by
    rw [← hAs, srtU_eq] at hx
    have hx2 := srt_mem.1 hx
    have hwf := hxs.2.1 x hx2
    exact ⟨hwf, (hxs.2.2 x hwf).1 hx2⟩
  rw [hAs] at hSA
  obtain ⟨ad, cap, rfl, g, hg1, hg2⟩ := form_U hSA
  have hs2 := hb2.size
  have hrel0 : CrO w st As ps g pc 0 (.slice va ps.length vc) (ps, newSt st.room) Oc w2 := by
    refine ⟨rfl, hI, hcap, hps, hDc.below hb2, fun k hk => ?_, fun hne => (hg1 hne).2.2, hb1.trans (hb2.mono hs1), Nat.le_refl _, ?_, ?_, fun a _ => rfl⟩
    · have := hOc k hk; omega
    · show max st.room 0 ≤ st.room + ((([] : List Int).map st.N).sum : Nat); simp; omega
    · show 0 ≤ max st.room 0; omega
  have HG1 := Lib.hid (fun hne => (hg1 hne).1)
  have HAM := Lib.hid hAm
  have HAN := Lib.hid hAn
  have HAS := Lib.hid hAs2
  have HV := Lib.hid hV
  have HN := Lib.hid hN
  have HSUM := Lib.hid hsum
  have HO := Lib.hid hO
  clear hDc hOc hb1 hb2 hSA hAs hxs hxl hAm hAn hAs2 hg1 hI c0 c1 c2 c3 c4 hps hV hN hO hsum
  go_wp2_with fail
  go_loopw [1, 23] (fun x1 x23 wr => ∃ (i : Nat) (vp : Value) (x : List Int × DSt) (Oc : Nat → Prop), x1 = vp ∧ x23 = .int .i64 i ∧ i ≤ As.length ∧ CrO w st As ps g pc i vp x Oc wr) (fun _ x23 _ => As.length - (intOf x23).toNat)
  case atStart => exact ⟨0, _, _, Oc, rfl, rfl, Nat.zero_le _, hrel0⟩
  case round =>
    clear hrel0
    obtain ⟨i, vp, x, Oc, rfl, rfl, hi, hR⟩ := hrel
    obtain ⟨va1, vc1, hvp⟩ := Ints.form hR.ints
    subst hvp
    by_cases hlt : (i : Int) < (As.length : Int)
    · have hiA : i < As.length := by omega
      have hne : As ≠ [] := fun e => by rw [e] at hiA; cases hiA
      obtain rfl := HG1.out hne
      have hrow := hR.row hne
      obtain ⟨a, ha⟩ : ∃ a, As[i]'hiA = a := ⟨_, rfl⟩
      have ha' : As.toArray[i]! = a := by rw [getElem!_pos _ _ (by simpa using hiA)]; simpa using ha
      have ca := hrow.cell (j := i) (by simpa using hiA) ha'
      have hamem : a ∈ As := by rw [← ha]; exact List.getElem_mem _
      obtain ⟨hawf, haA⟩ := HAM.out a hamem
      have hDw := hD.keep (O' := fun _ => False) (Keeps.of_below hR.below) (fun _ _ h => h)
      obtain ⟨d0, d1, d2, d3, d4⟩ := hDw.cells
      obtain ⟨ga, hga⟩ : ∃ ga, G a = some ga := by
        have := hD.present a
        rw [haA] at this
        cases hq : G a with
        | none => rw [hq] at this; cases this
        | some ga => exact ⟨ga, rfl⟩
      have hL1 := hDw.area hawf
      rw [hga] at hL1
      have hmk : ∀ w : World, (Instr.makeMap 68 none).run Try.prog w = .ok (.map (some w.heap.size)) (w.alloc (.map #[] 0)) := fun w => rfl
      obtain ⟨gl, hgl⟩ : ∃ gl, wr.heap.size = gl := ⟨_, rfl⟩
      obtain ⟨wa, hwa⟩ : ∃ wa, wr.alloc (.map #[] 0) = wa := ⟨_, rfl⟩
      have hba : Below wr.heap.size wr wa := by rw [← hwa]; exact (Below.refl _ _).alloc (Nat.le_refl _) _
      have hsa : wa.heap.size = gl + 1 := by rw [← hwa, ← hgl]; simp
      have hAR0 := AreaIs.new wr
      rw [hwa, hgl] at hAR0
      have hDa := hDw.keep (O' := fun _ => False) (Keeps.of_below hba) (fun _ _ h => h)
      obtain ⟨d0, d1, d2, d3, d4⟩ := hDa.cells
      have hL1 := hDa.area hawf
      rw [hga] at hL1
      have hmk2 := hmk wr
      rw [hwa, hgl] at hmk2
      obtain ⟨_, _, S, hS, hf⟩ := hDa.inner a ga hga
      have hNa : st.N a ≤ 4398046511104 := HN.out a
      clear hmk
      go_wp2_with fail
      refine (keysI_any (some ga) wa).mono ?_
      rintro e wb ⟨rfl, hwb⟩
      have hbb : Below wa.heap.size wa wb := by rw [hwb]; exact (Below.refl _ _).alloc (Nat.le_refl _) _
      have hcb : wb.cell? ⟨wa.heap.size, 0, none⟩ = some (.map (some ga)) := by rw [hwb]; exact cell_new _ _ _ _ rfl
      have hsb : wb.heap.size = wa.heap.size + 1 := by rw [hwb]; simp
      have hsort := QI.sorted_any wa.heap.size ga (st.N a) S wb hNa (by omega) hcb (hS.kept (hbb.block ga hS.lt))
      rw [hsa] at hsort
      clear hwb hcb
      go_wp2_with fail
      refine hsort.mono ?_
      rintro e wc ⟨vN, ys, rfl, ⟨⟨k1, k2, k3⟩, hyl⟩, hSN, hbc⟩
      have hSec : SecsOf st a ys := by
        refine ⟨k1, k2, fun x hx => ?_⟩
        rw [k3 x hx]
        cases hF : st.F a x with
        | none => rw [(hf x).1 hF]; simp
        | some s => obtain ⟨v', e1, _⟩ := (hf x).2 s hF; rw [e1]; simp
      obtain ⟨Ns, hNs⟩ : ∃ Ns, QI.srt ys = Ns := ⟨_, rfl⟩
      have hNs2 : Ns = secsL st a := by rw [← hNs]; exact secsL_eq hSec
      have hNl0 : Ns.length ≤ st.N a := by rw [← hNs]; unfold QI.srt; rw [List.length_mergeSort]; omega
      have hNl : Ns.length ≤ 4398046511104 := by omega
      have HNL := Lib.hid hNl0
      clear hNl0
      have hNn : Ns.Nodup := by rw [← hNs]; exact srt_nodup hSec.1
      have hNm : ∀ n ∈ Ns, (Lit.int .i64 n).wf = true ∧ (st.F a n).isSome = true := fun n hn => by
        rw [← hNs] at hn
        have hn2 := srt_mem.1 hn
        have hwf := hSec.2.1 n hn2
        exact ⟨hwf, (hSec.2.2 n hwf).1 hn2⟩
      rw [hNs] at hSN
      obtain ⟨ad2, cap2, rfl, g2, hg21, hg22⟩ := form_I hSN
      have hbrc : Below wr.heap.size wr wc := hba.trans ((hbb.trans (hbc.mono (by omega))).mono (by omega))
      have hsc := hbrc.size
      have hbcs := hbc.size
      have hrws := hR.below.size
      have hrlt := hrow.lt
      have hRel : CrI w st a As Ns x.1 x.2 g g2 gl pc 0 (.slice va1 x.1.length vc1) ⟨x.1, fun _ => none, 0, 0⟩ Oc (fun k => k = gl) wc := by
        refine ⟨rfl, hR.ints, hR.cap, hR.wfs, ?_, rfl, ?_, fun k hk => ?_, fun k hk => ?_, hrow.below hbrc, fun hne => (hg21 hne).2.2, hR.below.trans (hbrc.mono hrws), Nat.le_refl _, Nat.le_refl _, fun n _ => rfl⟩
        · exact hAR0.keep (O' := fun _ => False) rfl (Keeps.of_below (hbb.trans (hbc.mono (by omega)))) (fun _ _ h => h)
        · have : roomF x.2 0 = x.2 := by unfold roomF; simp
          rw [this]; exact hR.d.below hbrc
        · have := hR.o k hk
          omega
        · have := hR.o
          refine ⟨by omega, by omega, by omega, by omega, fun hh => by have := (hR.o k hh).2.1; omega⟩
      have HG21 := Lib.hid (fun hne => (hg21 hne).1)
      have HNM := Lib.hid hNm
      have HNN := Lib.hid hNn
      have HNS := Lib.hid hNs2
      clear hsort hS hf hDa d0 d1 d2 d3 d4 hL1 hmk2 hbb hbc hba hbrc hwa hSec hNs hNs2 hNn hNm hg21 hAR0 k1 k2 k3 hyl hDw
      have HR := Lib.hid hR
      clear hR hrow ca hg22
      go_wp2_with fail
      go_loopw [1, 37] (fun x1 x37 wq => ∃ (j : Nat) (u : Value) (c : Cr) (Oc Oin : Nat → Prop), x1 = u ∧ x37 = .int .i64 j ∧ j ≤ Ns.length ∧ CrI w st a As Ns x.1 x.2 g g2 gl pc j u c Oc Oin wq) (fun _ x37 _ => Ns.length - (intOf x37).toNat)
      case atStart => exact ⟨0, _, _, Oc, _, rfl, rfl, Nat.zero_le _, hRel⟩
      case round =>
        clear hRel
        obtain ⟨j, u, c, Oc, Oin, rfl, rfl, hj, hI⟩ := hrel
        obtain ⟨va2, vc2, hvp⟩ := Ints.form hI.ints
        subst hvp
        by_cases hlt2 : (j : Int) < (Ns.length : Int)
        · have hjN : j < Ns.length := by omega
          have hne2 : Ns ≠ [] := fun e => by rw [e] at hjN; cases hjN
          obtain rfl := HG21.out hne2
          have hrow2 := hI.rowi hne2
          obtain ⟨n, hn⟩ : ∃ n, Ns[j]'hjN = n := ⟨_, rfl⟩
          have hn' : Ns.toArray[j]! = n := by rw [getElem!_pos _ _ (by simpa using hjN)]; simpa using hn
          have cn := hrow2.cell (j := j) (by simpa using hjN) hn'
          have hnmem : n ∈ Ns := by rw [← hn]; exact List.getElem_mem _
          obtain ⟨hnwf, hnF⟩ := HNM.out n hnmem
          obtain ⟨s, hs⟩ := Option.isSome_iff_exists.1 hnF
          obtain ⟨L, sy⟩ := s
          have hDq := hD.keep (O' := fun _ => False) (Keeps.of_below hI.below) (fun _ _ h => h)
          obtain ⟨d0, d1, d2, d3, d4⟩ := hDq.cells
          have hL1 := hDq.area hawf
          rw [hga] at hL1
          obtain ⟨sv, hL2, hVs, hLne⟩ := hDq.sector1 hnwf hs
          rw [hga] at hL2
          have hLl := HV.out _ _ _ _ hs
          have hVs' := Lib.hid hVs
          obtain ⟨h63, av, cv, rfl, hlc, hnil, hcell⟩ := hVs
          obtain ⟨B, hB⟩ : ∃ B, wr.heap.size = B := ⟨_, rfl⟩
          obtain ⟨wz, hwz⟩ : ∃ wz, wr.alloc (.cells #[.slice av L.length cv, .bool sy] 66) = wz := ⟨_, rfl⟩
          have hbz : Below wr.heap.size wr wz := by rw [← hwz]; exact (Below.refl _ _).alloc (Nat.le_refl _) _
          have hsz : wz.heap.size = B + 1 := by rw [← hwz, ← hB]; simp
          have hBB : Blk wz B 66 #[.slice av L.length cv, .bool sy] := by rw [← hwz, ← hB]; exact Blk.alloc_new _ _ _
          obtain ⟨z0, z1⟩ := blk2 hBB
          have hIz := hI.low hbz
          have hVz : Vers O wz (.slice av L.length cv) L := hVs'.out.keep (O' := fun _ => False) (Keeps.of_below hbz) (fun _ _ h => h)
          have HIz := Lib.hid hIz
          have HVz := Lib.hid hVz
          have HU := Lib.hid (useF_eq (L, sy) c.picks)
          have hpl : c.picks.length ≤ 140737488355328 := hI.ints.1
          obtain ⟨pl, hplN⟩ : ∃ pl, c.picks.length = pl := ⟨_, rfl⟩
          obtain ⟨ll, hll⟩ : ∃ ll, L.length = ll := ⟨_, rfl⟩
          have HPL := Lib.hid hplN
          have HLL := Lib.hid hll
          rw [hplN] at hpl ⊢
          rw [hll] at z0 hwz hL2 hLl
          have HI0 := Lib.hid hI
          clear hI hIz hVz hVs' hcell hnil hrow2 hplN hll hBB
          go_upto_region 11 with fail
          go_cut [62] (fun s62 wx => s62 = .bool (useF (L, sy) c.picks) ∧ wx = wz)
          case first =>
            have e1 : (((L, sy) : Sec).1.length : Int) = (ll : Int) := by show (L.length : Int) = _; rw [HLL.out]
            have HE1 := Lib.hid e1
            clear e1
            by_cases hp0 : (0 : Int) < (pl : Int)
            · cases sy
              · go_wp2_with fail
                go_meet
                exact ⟨by rw [HU.out, HE1.out, HPL.out]; simp; omega, rfl⟩
              · go_wp2_with fail
                all_goals go_meet
                all_goals exact ⟨by rw [HU.out, HE1.out, HPL.out]; simp; omega, rfl⟩
            · go_wp2_with fail
              go_meet
              exact ⟨by rw [HU.out, HE1.out, HPL.out]; simp; omega, rfl⟩
          case rest =>
            obtain ⟨rfl, hwx⟩ := hcut
            rw [hwx]
            clear hwx
            go_upto_if 62 with fail
            go_cut [1, 12] (fun s1 s12 wx => ∃ u : Value, s1 = u ∧ (Ints w .i64 u (restF (L, sy) c.picks) ∧ CapV u) ∧ s12 = .int .i64 (pickF (L, sy) c.picks) ∧ wx = wz)
            case first =>
              have hints := HI0.out.ints
              rw [HPL.out] at hints
              have hcp := HI0.out.cap
              rw [HPL.out] at hcp
              have hcp' : pl ≤ vc2 := hcp
              cases huse : useF (L, sy) c.picks
              · have e1 : restF (L, sy) c.picks = c.picks := by unfold restF; rw [huse]; rfl
                have e2 : pickF (L, sy) c.picks = 0 := by unfold pickF; rw [huse]; rfl
                go_wp2_with fail
                go_meet
                exact ⟨_, rfl, ⟨by rw [e1]; exact hints, hcp⟩, by rw [e2], rfl⟩
              · have e1 : restF (L, sy) c.picks = c.picks.tail := by unfold restF; rw [huse]; rfl
                have e2 : pickF (L, sy) c.picks = c.picks.headD 0 := by unfold pickF; rw [huse]; rfl
                have hp0 : 0 < pl := by
                  have h1 := HU.out
                  rw [huse, HPL.out] at h1
                  by_cases hq : (0 : Int) < (pl : Int)
                  · omega
                  · rw [decide_eq_false hq] at h1; cases h1
                obtain ⟨y, hy⟩ : ∃ y, c.picks.getD 0 0 = y := ⟨_, rfl⟩
                obtain ⟨b1, o1, rfl, hb1w, cy⟩ := Ints.at_ hints (k := 0) (by rw [HPL.out]; exact hp0) hy
                have hhd : c.picks.headD 0 = y := by rw [← hy]; cases c.picks <;> rfl
                obtain ⟨pk, rfl⟩ : ∃ pk, pl = pk + 1 := ⟨pl - 1, by omega⟩
                have htail := ints_tail hints
                have cy2 : wz.cell? ⟨b1, o1, none⟩ = some (.int .i64 y) := (HIz.out.below.cell (p := ⟨b1, o1, none⟩) hb1w).trans cy
                by_cases hv1 : vc2 - 1 = 0
                · obtain rfl : pk = 0 := by omega
                  obtain rfl : vc2 = 1 := by omega
                  have htl : c.picks.tail = [] := by
                    apply List.eq_nil_of_length_eq_zero
                    rw [List.length_tail, HPL.out]
                  go_wp2_with fail
                  go_meet
                  exact ⟨_, rfl, ⟨by rw [e1, htl]; exact ⟨by simp, .inl ⟨rfl, .inr ⟨_, _, rfl⟩⟩⟩, Nat.le_refl 0⟩, by rw [e2, hhd], rfl⟩
                · have hv2 : ¬ vc2 = 1 := by omega
                  have hv3 : ¬ vc2 ≤ 1 := by omega
                  go_wp2_with fail
                  go_meet
                  exact ⟨_, rfl, ⟨by rw [e1]; exact htail, by show pk ≤ vc2 - 1; omega⟩, by rw [e2, hhd], rfl⟩
            case rest =>
              obtain ⟨u2, rfl, ⟨hu2, hu2c⟩, rfl, hwx⟩ := hcut
              rw [hwx]
              clear hwx
              have hpkwf : (Lit.int .i64 (pickF (L, sy) c.picks)).wf = true := by
                unfold pickF
                split
                · cases hq : c.picks with
                  | nil => decide
                  | cons y r => exact HI0.out.wfs y (by rw [hq]; exact List.mem_cons_self)
                · decide
              have hwfs2 : ∀ y ∈ restF (L, sy) c.picks, (Lit.int .i64 y).wf = true := fun y hy => by
                unfold restF at hy
                split at hy
                · exact HI0.out.wfs y (List.mem_of_mem_tail hy)
                · exact HI0.out.wfs y hy
              obtain ⟨pick, hpick⟩ : ∃ pick, pickF (L, sy) c.picks = pick := ⟨_, rfl⟩
              obtain ⟨rest, hrest⟩ : ∃ rest, restF (L, sy) c.picks = rest := ⟨_, rfl⟩
              rw [hpick] at hpkwf ⊢
              rw [hrest] at hwfs2 hu2
              have hfind := found_any O (.slice av L.length cv) L sy pick wz HVz.out hLne (by rw [HLL.out]; exact hLl) hpkwf
              rw [HLL.out] at hfind
              have hfold : (Ns.take (j + 1)).foldl (crIn (st.F a)) ⟨x.1, fun _ => none, 0, 0⟩ = crIn (st.F a) c n := by
                rw [List.take_add_one, List.getElem?_eq_getElem hjN, hn, List.foldl_append, ← HI0.out.fold]; rfl
              have hcr : crIn (st.F a) c n = match foundF (L, sy) pick with
                  | some v => { picks := rest, F := updS c.F n (some ([v], true)), cnt := c.cnt + 1, miss := c.miss }
                  | none => { c with picks := rest, miss := c.miss + 1 } := by
                unfold crIn
                rw [hs]
                simp only [hpick, hrest]
                cases foundF (L, sy) pick <;> rfl
              have HWF := Lib.hid hwfs2
              have HFO := Lib.hid (hfold.trans hcr)
              clear hfold hcr hpick hrest hwfs2
              cases hfo : foundF (L, sy) pick with
              | none =>
                rw [hfo] at hfind HFO
                go_wp2_with fail
                refine hfind.mono ?_
                rintro e wf ⟨rfl, hbf⟩
                have hIf := HIz.out.low hbf
                obtain ⟨tD, tK, tc, tf, tO⟩ := room_turn hIf.d
                have HT := Lib.hid tD
                have HTK := Lib.hid tK
                have hcm := hIf.miss
                have hr0 := HR.out.room0
                have hr1 := HR.out.room
                have hmul := HSUM.out _ (HAN.out.sublist (List.take_sublist (i + 1) As))
                rw [List.take_add_one, List.getElem?_eq_getElem hiA, ha, List.map_append, List.sum_append] at hmul
                simp only [Option.toList_some, List.map_cons, List.map_nil, List.sum_cons, List.sum_nil, Nat.add_zero] at hmul
                have hnl := HNL.out
                obtain ⟨rm, hrm⟩ : ∃ rm, x.2.room + (c.miss : Nat) = rm := ⟨_, rfl⟩
                rw [hrm] at tc HT HTK
                have hrm2 : 0 ≤ rm ∧ rm < 9223372036854775807 := by omega
                have hinext : IntKind.i64.wrap ((j : Int) + 1) = ((j + 1 : Nat) : Int) := IntWalk.i64_in _ (by omega)
                have HIF := Lib.hid hIf
                clear hIf tD tK hr0 hr1 hmul hrm hfind hnl
                go_wp2_with fail
                have hkp := HTK.out
                have hIq := HIF.out
                have hg := hIq.oc pc tO
                have hfo' := HFO.out
                refine ⟨⟨j + 1, _, ⟨rest, c.F, c.cnt, c.miss + 1⟩, Oc, Oin, rfl, rfl, by omega, ?_⟩, ?_⟩
                · refine ⟨hfo'.symm, hu2, hu2c, HWF.out, hIq.area.keep hIq.ogl hkp (fun k hk e => by subst e; exact (hIq.oin k hk).2.2.2.2 tO), hIq.ogl, HT.out, fun k hk => ?_, fun k hk => ?_, rowU_keep hIq.row hkp (fun e => hg.2.2.1 e.symm), fun hne => rowI_keep (hIq.rowi hne) hkp (fun e => hg.2.2.2 e.symm), hkp.below hIq.below hIq.below.size (fun x hx => by subst hx; exact hg.1), ?_, ?_, fun n' hn' => hIq.none_ n' (fun hm => hn' ?_)⟩
                  · have := hIq.oc k hk; have := hkp.size; omega
                  · obtain ⟨z1, z2, z3, z4, z5⟩ := hIq.oin k hk; have := hkp.size; exact ⟨z1, by omega, z3, z4, z5⟩
                  · have := hIq.cnt; show c.cnt ≤ _; omega
                  · have := hIq.miss; show c.miss + 1 ≤ _; omega
                  · rw [List.take_add_one]; exact List.mem_append.2 (.inl hm)
                · show Ns.length - ((j + 1 : Nat) : Int).toNat < Ns.length - ((j : Nat) : Int).toNat
                  omega
              | some V =>
                rw [hfo] at hfind HFO
                go_wp2_with fail
                refine hfind.mono ?_
                rintro e wf ⟨rfl, hbf⟩
                have hIf := HIz.out.low hbf
                have hbn : Below wf.heap.size wf (wf.alloc (.cells #[.string V] 9)) := (Below.refl _ _).alloc (Nat.le_refl _) _
                have hVn := vers_new wf V
                have hIn := hIf.low hbn
                have hFn : c.F n = none := hIf.none_ n (by
                  intro hm
                  have hnd := HNN.out
                  obtain ⟨q, hq, hqe⟩ := List.mem_iff_getElem.1 hm
                  rw [List.length_take] at hq
                  rw [List.getElem_take] at hqe
                  have := (List.getElem_inj hnd).1 (hqe.trans hn.symm)
                  omega)
                have hAn := hIn.area.mono (O' := fun k => Oin k ∨ k = wf.heap.size) (fun k hk => .inl hk)
                have hVn2 := hVn.mono (O' := fun k => Oin k ∨ k = wf.heap.size) (fun k hk => .inr hk)
                have hcc := hIf.cnt
                obtain ⟨wh, hrunU, hAU, hKU, hzU⟩ := hAn.put (.inl hIn.ogl) hnwf (by unfold maxLen; omega) hFn hVn2 (List.cons_ne_nil _ _) (s := true)
                have hinext : IntKind.i64.wrap ((j : Int) + 1) = ((j + 1 : Nat) : Int) := IntWalk.i64_in _ (by omega)
                have HIN := Lib.hid hIn
                have HIF := Lib.hid hIf
                have HAU := Lib.hid hAU
                have hsn : (wf.alloc (.cells #[.string V] 9)).heap.size = wf.heap.size + 1 := by simp
                have HSN := Lib.hid hsn
                have HKU := Lib.hid hKU
                clear hIf hbn hVn hIn hAn hVn2 hAU hKU hfind hsn
                go_wp2_with fail
                have hkp := HKU.out
                have hIq := HIN.out
                have hog := hIq.oin gl hIq.ogl
                have hfo' := HFO.out
                have hs5 := HSN.out
                refine ⟨⟨j + 1, _, ⟨rest, updS c.F n (some ([V], true)), c.cnt + 1, c.miss⟩, Oc, (fun k => Oin k ∨ k = wf.heap.size), rfl, rfl, by omega, ?_⟩, ?_⟩
                · refine ⟨hfo'.symm, hu2, hu2c, HWF.out, HAU.out, .inl hIq.ogl, hIq.d.keep hkp (fun k hk e => by subst e; exact hog.2.2.2.2 hk), fun k hk => ?_, fun k hk => ?_, rowU_keep hIq.row hkp (fun e => hog.2.2.1 e.symm), fun hne => rowI_keep (hIq.rowi hne) hkp (fun e => hog.2.2.2.1 e.symm), hkp.below hIq.below hIq.below.size (fun x hx => by subst hx; exact hog.1), ?_, ?_, fun n' hn' => ?_⟩
                  · have := hIq.oc k hk; have := hkp.size; omega
                  · rcases hk with hk | rfl
                    · obtain ⟨z1, z2, z3, z4, z5⟩ := hIq.oin k hk; have := hkp.size; exact ⟨z1, by omega, z3, z4, z5⟩
                    · have q1 := HIF.out.row.lt
                      have q2 := (HIF.out.rowi hne2).lt
                      have q3 := hkp.size
                      have q4 := HIF.out.below.size
                      exact ⟨by omega, by omega, by omega, by omega, fun hh => by have := (HIF.out.oc _ hh).2.1; omega⟩
                  · have := hIq.cnt; show c.cnt + 1 ≤ _; omega
                  · have := hIq.miss; show c.miss ≤ _; omega
                  · show updS c.F n _ n' = none
                    unfold updS
                    rw [List.take_add_one, List.getElem?_eq_getElem hjN, hn] at hn'
                    rw [if_neg (fun e => hn' (List.mem_append.2 (.inr (by rw [e]; simp))))]
                    exact hIq.none_ n' (fun hm => hn' (List.mem_append.2 (.inl hm)))
                · show Ns.length - ((j + 1 : Nat) : Int).toNat < Ns.length - ((j : Nat) : Int).toNat
                  omega
        · have hjE : j = Ns.length := by omega
          subst hjE
          have hcE := hI.fold
          rw [List.take_length] at hcE
          have hcE2 : c = crIns (st.F a) Ns x.1 := hcE
          obtain ⟨S, hS, hf⟩ := hI.area
          have hlen := hS.len Try.underlying68 3
          have hnew : (As.take (i + 1)).foldl (crOut st (secsL st)) (ps, newSt st.room) = (c.picks, if c.cnt = 0 then roomF x.2 c.miss else layA (roomF x.2 c.miss) a c.F c.cnt) := by
            rw [List.take_add_one, List.getElem?_eq_getElem hiA, ha, List.foldl_append, ← HR.out.fold]
            show crOut st (secsL st) x a = _
            unfold crOut
            rw [← HNS.out, ← hcE2]
          have HNEW := Lib.hid hnew
          have hinext : IntKind.i64.wrap ((i : Int) + 1) = ((i + 1 : Nat) : Int) := IntWalk.i64_in _ (by omega)
          have hcn := hI.cnt
          have hcm := hI.miss
          have htk : ∀ a', a' ∉ As.take (i + 1) → a' ≠ a ∧ a' ∉ As.take i := fun a' h' => by
            rw [List.take_add_one, List.getElem?_eq_getElem hiA, ha] at h'
            exact ⟨fun e => h' (List.mem_append.2 (.inr (by rw [e]; simp))), fun e => h' (List.mem_append.2 (.inl e))⟩
          have HTKK := Lib.hid htk
          have HI1 := Lib.hid hI
          by_cases hc0 : c.cnt = 0
          · rw [hc0] at hlen
            clear hS hf hI hcE hcE2 hnew htk
            go_wp2_with fail
            have hIq := HI1.out
            have hRq := HR.out
            refine ⟨⟨i + 1, _, (c.picks, roomF x.2 c.miss), Oc, rfl, rfl, by omega, ?_⟩, ?_⟩
            · refine ⟨?_, hIq.ints, hIq.cap, hIq.wfs, hIq.d, fun k hk => ?_, fun _ => hIq.row, hIq.below, ?_, ?_, ?_, fun a' h' => hRq.none_ a' (HTKK.out a' h').2⟩
              · rw [HNEW.out, if_pos hc0]
              · have := hIq.oc k hk; omega
              · have := hRq.C; show x.2.C ≤ _; omega
              · have h1 := hRq.room; show x.2.room + (c.miss : Nat) ≤ _; rw [List.take_add_one, List.getElem?_eq_getElem hiA, ha, List.map_append, List.sum_append]; simp only [Option.toList_some, List.map_cons, List.map_nil, List.sum_cons, List.sum_nil, Nat.add_zero]; have := HNL.out; omega
              · have := hRq.room0; show 0 ≤ x.2.room + (c.miss : Nat); omega
            · show As.length - ((i + 1 : Nat) : Int).toNat < As.length - ((i : Nat) : Int).toNat
              omega
          · obtain ⟨m2, G2, hD2⟩ := hI.d
            obtain ⟨e0, e1, e2, e3, e4⟩ := hD2.cells
            have hani : a ∉ As.take i := by
              intro hm
              obtain ⟨q, hq, hqe⟩ := List.mem_iff_getElem.1 hm
              rw [List.length_take] at hq
              rw [List.getElem_take] at hqe
              have := (List.getElem_inj HAN.out).1 (hqe.trans ha.symm)
              omega
            have hG2 : G2 a = none := by
              have h1 := hD2.present a
              have h2 : (roomF x.2 c.miss).A a = false := HR.out.none_ a hani
              rw [h2] at h1
              cases hq : G2 a with
              | none => rfl
              | some q => rw [hq] at h1; cases h1
            have hCx := HR.out.C
            have hgm2 : gl ≠ m2 := fun e => (hI.oin gl hI.ogl).2.2.2.2 (e ▸ hD2.om)
            obtain ⟨wh, hrunU, hDU, hKU, hzU⟩ := hD2.attach hG2 hawf (by show x.2.C < maxLen; unfold maxLen; omega) hI.area hI.ogl (fun k hk => (hI.oin k hk).2.2.2.2) hgm2
            have HDU := Lib.hid hDU
            have HKU := Lib.hid hKU
            have hom2 := Lib.hid (hI.oc m2 hD2.om)
            have hc1 : (0 : Int) < (c.cnt : Int) := by omega
            clear hS hf hI hcE hcE2 hnew htk hDU hKU hD2 hani hG2 e0 e1 e3 e4
            go_wp2_with fail
            have hIq := HI1.out
            have hRq := HR.out
            have hkp := HKU.out
            have hom := hom2.out
            refine ⟨⟨i + 1, _, (c.picks, layA (roomF x.2 c.miss) a c.F c.cnt), (fun k => Oc k ∨ Oin k), rfl, rfl, by omega, ?_⟩, ?_⟩
            · refine ⟨?_, hIq.ints, hIq.cap, hIq.wfs, ⟨_, _, HDU.out⟩, fun k hk => ?_, fun _ => rowU_keep hIq.row hkp (fun e => hom.2.2.1 e.symm), hkp.below hIq.below hIq.below.size (fun x hx => by subst hx; exact hom.1), ?_, ?_, ?_, fun a' h' => ?_⟩
              · rw [HNEW.out, if_neg hc0]
              · rcases hk with hk | hk
                · have := hIq.oc k hk; have := hkp.size; omega
                · have := hIq.oin k hk; have := hkp.size; omega
              · have := hRq.C; show x.2.C + 1 ≤ _; omega
              · have h1 := hRq.room; show x.2.room + (c.miss : Nat) ≤ _; rw [List.take_add_one, List.getElem?_eq_getElem hiA, ha, List.map_append, List.sum_append]; simp only [Option.toList_some, List.map_cons, List.map_nil, List.sum_cons, List.sum_nil, Nat.add_zero]; have := HNL.out; omega
              · have := hRq.room0; show 0 ≤ x.2.room + (c.miss : Nat); omega
              · show updA x.2.A a true a' = false
                unfold updA
                rw [if_neg (HTKK.out a' h').1]
                exact hRq.none_ a' (HTKK.out a' h').2
            · show As.length - ((i + 1 : Nat) : Int).toNat < As.length - ((i : Nat) : Int).toNat
              omega
    · have hiE : i = As.length := by omega
      subst hiE
      have hfE := hR.fold
      rw [List.take_length] at hfE
      have HR := Lib.hid hR
      clear hR
      go_wp2_with fail
      go_ret
      have hRq := HR.out
      refine ⟨pc, rfl, Oc, ?_, fun k hk => ?_, hRq.below⟩
      · have : (crashF st (areasL st) (secsL st) ps) = x := by unfold crashF; rw [← HAS.out]; exact hfE.symm
        rw [this]; exact hRq.d
      · have := hRq.o k hk; omega
end Go.Proofs.Yteidmneenfdafaa.K
