/-
  DskCrash + WalCra + WalPln + WalCrb + WalAgn + WalRawM + WalRawA + WalCdc + WalTex + WalChn + WalSgd.
-/
import Derived.Test.YtcpkpljeimbdiaaGreatDskCrashM
import Derived.Test.YtcpkpljeimbdiaaGreatWalKpB
import Derived.Test.YtcpkpljeimbdiaaGreatWalKpA
namespace Go.Proofs.YtcpkpljeimbdiaaGreat.K
open Go.RowKit Go.Maps
open Aid
set_option linter.unusedSimpArgs false
set_option linter.unusedVariables false
set_option maxRecDepth 100000 in
theorem keysI_any (mb : Option Nat) (w : World) : Calls Tryz.prog 24 #[.map mb] w fun e w' => e = .returned (.func (.func 47) #[] #[.pointer (some ⟨w.heap.size, 0, none⟩)]) ∧ w' = w.alloc (.cells #[.map mb] 62) := by
  go_enter Tryz.func24, Tryz.ntmps24
  go_wp2_with fail
  go_ret
  exact ⟨rfl, rfl⟩
theorem form_U {w w' : World} {v : Value} {xs : List Int} (h : QU.SortedAt w w' v xs) : ∃ ad cap, v = .slice ad xs.length cap ∧ (∃ g, (xs ≠ [] → ad = some ⟨g, 0, none⟩ ∧ w.heap.size ≤ g ∧ QU.Row w' g xs.toArray) ∧ (w.heap.size ≤ g)) := by
  rcases h with ⟨rfl, rfl⟩ | ⟨g, cap, rfl, h1, h2, h3⟩
  · exact ⟨none, 0, rfl, w.heap.size, fun h => absurd rfl h, Nat.le_refl _⟩
  · exact ⟨_, cap, rfl, g, fun _ => ⟨rfl, h1, h3⟩, h1⟩
theorem form_I {w w' : World} {v : Value} {xs : List Int} (h : QI.SortedAt w w' v xs) : ∃ ad cap, v = .slice ad xs.length cap ∧ (∃ g, (xs ≠ [] → ad = some ⟨g, 0, none⟩ ∧ w.heap.size ≤ g ∧ QI.Row w' g xs.toArray) ∧ (w.heap.size ≤ g)) := by
  rcases h with ⟨rfl, rfl⟩ | ⟨g, cap, rfl, h1, h2, h3⟩
  · exact ⟨none, 0, rfl, w.heap.size, fun h => absurd rfl h, Nat.le_refl _⟩
  · exact ⟨_, cap, rfl, g, fun _ => ⟨rfl, h1, h3⟩, h1⟩
theorem rowU_keep {O : Nat → Prop} {w w' : World} {g : Nat} {d : Array Int} (h : QU.Row w g d) (hk : Keeps O w w') (hg : ¬ O g) : QU.Row w' g d := by
  obtain ⟨rest, h⟩ := h
  refine ⟨rest, ?_⟩
  have hl := Blk.lt h
  unfold Blk at h ⊢
  rw [hk.block g hl hg]; exact h
theorem rowI_keep {O : Nat → Prop} {w w' : World} {g : Nat} {d : Array Int} (h : QI.Row w g d) (hk : Keeps O w w') (hg : ¬ O g) : QI.Row w' g d := by
  obtain ⟨rest, h⟩ := h
  refine ⟨rest, ?_⟩
  have hl := Blk.lt h
  unfold Blk at h ⊢
  rw [hk.block g hl hg]; exact h
theorem ints_tail {w : World} {k : IntKind} {b o n c : Nat} {l : List Int} (h : Ints w k (.slice (some ⟨b, o, none⟩) (n + 1) c) l) : Ints w k (.slice (some ⟨b, o + 1, none⟩) n (c - 1)) l.tail := by
  obtain ⟨h0, ⟨rfl, h1⟩ | ⟨b', o', c', hv, hlt, hc⟩⟩ := h
  · rcases h1 with h1 | ⟨_, _, h1⟩ <;> simp at h1
  · simp only [Value.slice.injEq, Option.some.injEq, Addr.mk.injEq] at hv
    obtain ⟨⟨rfl, rfl, _⟩, hn, rfl⟩ := hv
    refine ⟨by rw [List.length_tail]; omega, .inr ⟨b, o + 1, c - 1, by rw [List.length_tail, ← hn]; rfl, hlt, fun j hj => ?_⟩⟩
    rw [List.length_tail] at hj
    have := hc (j + 1) (by omega)
    rw [show o + 1 + j = o + (j + 1) by omega, this]
    cases l with
    | nil => simp at hn
    | cons x l => rfl
theorem vers_new (w : World) (V : ByteArray) : Vers (fun k => k = w.heap.size) (w.alloc (.cells #[.string V] 9)) (.slice (some ⟨w.heap.size, 0, none⟩) 1 1) [V] := by
  refine ⟨by simp, some ⟨w.heap.size, 0, none⟩, 1, rfl, Nat.le_refl 1, fun e => (nomatch e), fun j hj => ⟨w.heap.size, 0, rfl, ⟨rfl, ⟨_, _, Blk.alloc_new _ _ _⟩⟩, by simp, ?_⟩⟩
  have hj0 : j = 0 := by simpa using hj
  subst hj0
  exact cell_new _ _ _ _ rfl
theorem room_turn {O : Nat → Prop} {w : World} {p : Nat} {st : DSt} {k : Nat} (h : DiskIs O w p (roomF st k)) : DiskIs O (w.setCell ⟨p, 0, none⟩ (.int .i64 (st.room + (k : Nat) + 1))) p (roomF st (k + 1)) ∧ Keeps (fun k => k = p) w (w.setCell ⟨p, 0, none⟩ (.int .i64 (st.room + (k : Nat) + 1))) ∧ w.cell? ⟨p, 0, none⟩ = some (.int .i64 (st.room + (k : Nat))) ∧ w.frozen? ⟨p, 0, none⟩ = false ∧ O p := by
  obtain ⟨m, G, hD⟩ := h
  refine ⟨⟨m, G, hD.turn (st' := roomF st (k + 1)) ?_ (fun q hq => ?_) (World.size_setCell _ _ _) rfl rfl rfl rfl⟩, set_keeps (Keeps.refl _ _) rfl (StrRow.no_blk hD.blk (by decide)), hD.cells.1, Blk.free hD.blk 0, hD.op⟩
  · have := hD.blk.set 0 (.int .i64 (st.room + (k : Nat) + 1))
    have e : (diskV (roomF st k) m).setIfInBounds 0 (.int .i64 (st.room + (k : Nat) + 1)) = diskV (roomF st (k + 1)) m := by
      unfold diskV roomF
      simp
      omega
    rw [e] at this
    exact this
  · show (w.heap.modify p _)[q]? = _
    rw [Array.getElem?_modify, if_neg (fun e => hq e.symm)]
def CapV : Value → Prop
  | .slice _ n c => n ≤ c
  | _ => True
structure CrO (W0 : World) (st : DSt) (As : List Int) (ps : List Int) (g pc i : Nat) (vp : Value) (x : List Int × DSt) (Oc : Nat → Prop) (w : World) : Prop where
  fold : x = (As.take i).foldl (crOut st (secsL st)) (ps, newSt st.room)
  ints : Ints W0 .i64 vp x.1
  cap : CapV vp
  wfs : ∀ y ∈ x.1, (Lit.int .i64 y).wf = true
  d : DiskIs Oc w pc x.2
  o : ∀ k, Oc k → W0.heap.size ≤ k ∧ k < w.heap.size ∧ k ≠ g
  row : As ≠ [] → QU.Row w g As.toArray
  below : Below W0.heap.size W0 w
  C : x.2.C ≤ i
  room : x.2.room ≤ st.room + (((As.take i).map st.N).sum : Nat)
  room0 : 0 ≤ x.2.room
  none_ : ∀ a, a ∉ As.take i → x.2.A a = false
theorem DiskIn.sector1 {O : Nat → Prop} {w : World} {p m : Nat} {G : Int → Option Nat} {st : DSt} (h : DiskIn O w p m G st) {a n : Int} (hn : (Lit.int .i64 n).wf = true) {s : Sec} (hF : st.F a n = some s) :
    ∃ v, (Instr.lookup 62 (.map (G a)) (.int .i64 n) false).run Tryz.prog w = .ok (.agg #[v, .bool s.2]) w ∧ Vers O w v s.1 ∧ s.1 ≠ [] := by
  cases hg : G a with
  | none => have := (h.empty a hg).1 n; rw [hF] at this; cases this
  | some g =>
    obtain ⟨_, _, S, hS, hf⟩ := h.inner a g hg
    have hl := hS.get Tryz.underlying3 Tryz.underlying62 (zero_sector w) hn
    obtain ⟨v, e1, e2, e3⟩ := (hf n).2 s hF
    rw [e1] at hl
    exact ⟨v, hl, e2, e3⟩
theorem useF_eq (s : Sec) (ps : List Int) : useF s ps = (decide ((0 : Int) < (ps.length : Int)) && (!s.2 || decide ((1 : Int) < (s.1.length : Int)))) := by
  unfold useF
  congr 1
  · cases ps <;> simp
  · congr 1
    exact decide_eq_decide.2 (by omega)
structure CrI (W0 : World) (st : DSt) (a : Int) (As Ns ps : List Int) (x2 : DSt) (g g2 gl pc j : Nat) (u : Value) (c : Cr) (Oc Oin : Nat → Prop) (w : World) : Prop where
  fold : c = (Ns.take j).foldl (crIn (st.F a)) ⟨ps, fun _ => none, 0, 0⟩
  ints : Ints W0 .i64 u c.picks
  cap : CapV u
  wfs : ∀ y ∈ c.picks, (Lit.int .i64 y).wf = true
  area : AreaIs Oin w gl c.F c.cnt
  ogl : Oin gl
  d : DiskIs Oc w pc (roomF x2 c.miss)
  oc : ∀ k, Oc k → W0.heap.size ≤ k ∧ k < w.heap.size ∧ k ≠ g ∧ k ≠ g2
  oin : ∀ k, Oin k → W0.heap.size ≤ k ∧ k < w.heap.size ∧ k ≠ g ∧ k ≠ g2 ∧ ¬ Oc k
  row : QU.Row w g As.toArray
  rowi : Ns ≠ [] → QI.Row w g2 Ns.toArray
  below : Below W0.heap.size W0 w
  cnt : c.cnt ≤ j
  miss : c.miss ≤ j
  none_ : ∀ n, n ∉ Ns.take j → c.F n = none
theorem CrI.low {W0 w w' : World} {st : DSt} {a : Int} {As Ns ps : List Int} {x2 : DSt} {g g2 gl pc j : Nat} {u : Value} {c : Cr} {Oc Oin : Nat → Prop} (h : CrI W0 st a As Ns ps x2 g g2 gl pc j u c Oc Oin w) (hb : Below w.heap.size w w') : CrI W0 st a As Ns ps x2 g g2 gl pc j u c Oc Oin w' :=
  ⟨h.fold, h.ints, h.cap, h.wfs, h.area.keep (O' := fun _ => False) h.ogl (Keeps.of_below hb) (fun _ _ h => h), h.ogl, h.d.below hb, fun k hk => by have := h.oc k hk; have := hb.size; omega, fun k hk => by obtain ⟨z1, z2, z3, z4, z5⟩ := h.oin k hk; have := hb.size; exact ⟨z1, by omega, z3, z4, z5⟩, h.row.below hb, fun hne => (h.rowi hne).below hb, h.below.trans (hb.mono h.below.size), h.cnt, h.miss, h.none_⟩
set_option maxRecDepth 100000 in
set_option maxHeartbeats 16000000 in
theorem crash_any (O : Nat → Prop) (p : Nat) (st : DSt) (vp : Value) (ps : List Int) (w : World) (h : DiskIs O w p st) (hI : Ints w .i64 vp ps) (hcap : CapV vp) (hps : ∀ y ∈ ps, (Lit.int .i64 y).wf = true) (hO : ∀ k, O k → k < w.heap.size) (hC : st.C ≤ 4398046511000) (hN : ∀ a, st.N a ≤ 4398046511104) (hV : ∀ a n Lv sb, st.F a n = some (Lv, sb) → Lv.length < 4398046511104) (hroom : 0 ≤ st.room) (hsum : ∀ la : List Int, la.Nodup → st.room + ((la.map st.N).sum : Nat) ≤ 9223372036854775807) :
    Calls Tryz.prog 7 #[.pointer (some ⟨p, 0, none⟩), vp] w fun e w' => ∃ pc Oc, e = .returned (.pointer (some ⟨pc, 0, none⟩)) ∧ DiskIs Oc w' pc (crashF st (areasL st) (secsL st) ps).2 ∧ (∀ k, Oc k → w.heap.size ≤ k ∧ k < w'.heap.size) ∧ Below w.heap.size w w' := by
  have hdisk := h
  obtain ⟨m, G, hD⟩ := h
  obtain ⟨c0, c1, c2, c3, c4⟩ := hD.cells
  obtain ⟨va, vc, rfl⟩ := Ints.form hI
  go_enter Tryz.func7, Tryz.ntmps7
  go_wp2_with fail
  refine (new_fine st.room w).mono ?_
  rintro e w1 ⟨pc, Oc, rfl, hDc, hOc, hb1⟩
  have hs1 := hb1.size
  go_wp2_with fail
  refine (areas_any O p st w1 (hdisk.below hb1) (by omega)).mono ?_
  rintro e w2 ⟨vA, xs, rfl, ⟨hxs, hxl⟩, hSA, hb2⟩
  obtain ⟨As, hAs⟩ : ∃ As, QU.srt xs = As := ⟨_, rfl⟩
  have hAs2 : As = areasL st := by rw [← hAs, srtU_eq]; exact areasL_eq hxs
  have hAl : As.length ≤ 4398046511000 := by rw [← hAs, srtU_eq]; unfold QI.srt; rw [List.length_mergeSort]; omega
  have hAn : As.Nodup := by rw [← hAs, srtU_eq]; exact srt_nodup hxs.1
  have hAm : ∀ x ∈ As, (Lit.int .u64 x).wf = true ∧ st.A x = true := fun x hx => by
    rw [← hAs, srtU_eq] at hx
    have hx2 := srt_mem.1 hx
    have hwf := hxs.2.1 x hx2
    exact ⟨hwf, (hxs.2.2 x hwf).1 hx2⟩
  rw [hAs] at hSA
  obtain ⟨ad, cap, rfl, g, hg1, hg2⟩ := form_U hSA
  have hs2 := hb2.size
  have hrel0 : CrO w st As ps g pc 0 (.slice va ps.length vc) (ps, newSt st.room) Oc w2 := by
    refine ⟨rfl, hI, hcap, hps, hDc.below hb2, fun k hk => ?_, fun hne => (hg1 hne).2.2, hb1.trans (hb2.mono hs1), Nat.le_refl _, ?_, ?_, fun a _ => rfl⟩
    · have := hOc k hk; omega
    · show max st.room 0 ≤ st.room + ((([] : List Int).map st.N).sum : Nat); simp; omega
    · show 0 ≤ max st.room 0; omega
  have HG1 := Lib.hid (fun hne => (hg1 hne).1)
  have HAM := Lib.hid hAm
  have HAN := Lib.hid hAn
  have HAS := Lib.hid hAs2
  have HV := Lib.hid hV
  have HN := Lib.hid hN
  have HSUM := Lib.hid hsum
  have HO := Lib.hid hO
  clear hDc hOc hb1 hb2 hSA hAs hxs hxl hAm hAn hAs2 hg1 hI c0 c1 c2 c3 c4 hps hV hN hO hsum
  go_wp2_with fail
  go_loopw [1, 23] (fun x1 x23 wr => ∃ (i : Nat) (vp : Value) (x : List Int × DSt) (Oc : Nat → Prop), x1 = vp ∧ x23 = .int .i64 i ∧ i ≤ As.length ∧ CrO w st As ps g pc i vp x Oc wr) (fun _ x23 _ => As.length - (intOf x23).toNat)
  case atStart => exact ⟨0, _, _, Oc, rfl, rfl, Nat.zero_le _, hrel0⟩
  case round =>
    clear hrel0
    obtain ⟨i, vp, x, Oc, rfl, rfl, hi, hR⟩ := hrel
    obtain ⟨va1, vc1, hvp⟩ := Ints.form hR.ints
    subst hvp
    by_cases hlt : (i : Int) < (As.length : Int)
    · have hiA : i < As.length := by omega
      have hne : As ≠ [] := fun e => by rw [e] at hiA; cases hiA
      obtain rfl := HG1.out hne
      have hrow := hR.row hne
      obtain ⟨a, ha⟩ : ∃ a, As[i]'hiA = a := ⟨_, rfl⟩
      have ha' : As.toArray[i]! = a := by rw [getElem!_pos _ _ (by simpa using hiA)]; simpa using ha
      have ca := hrow.cell (j := i) (by simpa using hiA) ha'
      have hamem : a ∈ As := by rw [← ha]; exact List.getElem_mem _
      obtain ⟨hawf, haA⟩ := HAM.out a hamem
      have hDw := hD.keep (O' := fun _ => False) (Keeps.of_below hR.below) (fun _ _ h => h)
      obtain ⟨d0, d1, d2, d3, d4⟩ := hDw.cells
      obtain ⟨ga, hga⟩ : ∃ ga, G a = some ga := by
        have := hD.present a
        rw [haA] at this
        cases hq : G a with
        | none => rw [hq] at this; cases this
        | some ga => exact ⟨ga, rfl⟩
      have hL1 := hDw.area hawf
      rw [hga] at hL1
      have hmk : ∀ w : World, (Instr.makeMap 62 none).run Tryz.prog w = .ok (.map (some w.heap.size)) (w.alloc (.map #[] 0)) := fun w => rfl
      obtain ⟨gl, hgl⟩ : ∃ gl, wr.heap.size = gl := ⟨_, rfl⟩
      obtain ⟨wa, hwa⟩ : ∃ wa, wr.alloc (.map #[] 0) = wa := ⟨_, rfl⟩
      have hba : Below wr.heap.size wr wa := by rw [← hwa]; exact (Below.refl _ _).alloc (Nat.le_refl _) _
      have hsa : wa.heap.size = gl + 1 := by rw [← hwa, ← hgl]; simp
      have hAR0 := AreaIs.new wr
      rw [hwa, hgl] at hAR0
      have hDa := hDw.keep (O' := fun _ => False) (Keeps.of_below hba) (fun _ _ h => h)
      obtain ⟨d0, d1, d2, d3, d4⟩ := hDa.cells
      have hL1 := hDa.area hawf
      rw [hga] at hL1
      have hmk2 := hmk wr
      rw [hwa, hgl] at hmk2
      obtain ⟨_, _, S, hS, hf⟩ := hDa.inner a ga hga
      have hNa : st.N a ≤ 4398046511104 := HN.out a
      clear hmk
      go_wp2_with fail
      refine (keysI_any (some ga) wa).mono ?_
      rintro e wb ⟨rfl, hwb⟩
      have hbb : Below wa.heap.size wa wb := by rw [hwb]; exact (Below.refl _ _).alloc (Nat.le_refl _) _
      have hcb : wb.cell? ⟨wa.heap.size, 0, none⟩ = some (.map (some ga)) := by rw [hwb]; exact cell_new _ _ _ _ rfl
      have hsb : wb.heap.size = wa.heap.size + 1 := by rw [hwb]; simp
      have hsort := QI.sorted_any wa.heap.size ga (st.N a) S wb hNa (by omega) hcb (hS.kept (hbb.block ga hS.lt))
      rw [hsa] at hsort
      clear hwb hcb
      go_wp2_with fail
      refine hsort.mono ?_
      rintro e wc ⟨vN, ys, rfl, ⟨⟨k1, k2, k3⟩, hyl⟩, hSN, hbc⟩
      have hSec : SecsOf st a ys := by
        refine ⟨k1, k2, fun x hx => ?_⟩
        rw [k3 x hx]
        cases hF : st.F a x with
        | none => rw [(hf x).1 hF]; simp
        | some s => obtain ⟨v', e1, _⟩ := (hf x).2 s hF; rw [e1]; simp
      obtain ⟨Ns, hNs⟩ : ∃ Ns, QI.srt ys = Ns := ⟨_, rfl⟩
      have hNs2 : Ns = secsL st a := by rw [← hNs]; exact secsL_eq hSec
      have hNl0 : Ns.length ≤ st.N a := by rw [← hNs]; unfold QI.srt; rw [List.length_mergeSort]; omega
      have hNl : Ns.length ≤ 4398046511104 := by omega
      have HNL := Lib.hid hNl0
      clear hNl0
      have hNn : Ns.Nodup := by rw [← hNs]; exact srt_nodup hSec.1
      have hNm : ∀ n ∈ Ns, (Lit.int .i64 n).wf = true ∧ (st.F a n).isSome = true := fun n hn => by
        rw [← hNs] at hn
        have hn2 := srt_mem.1 hn
        have hwf := hSec.2.1 n hn2
        exact ⟨hwf, (hSec.2.2 n hwf).1 hn2⟩
      rw [hNs] at hSN
      obtain ⟨ad2, cap2, rfl, g2, hg21, hg22⟩ := form_I hSN
      have hbrc : Below wr.heap.size wr wc := hba.trans ((hbb.trans (hbc.mono (by omega))).mono (by omega))
      have hsc := hbrc.size
      have hbcs := hbc.size
      have hrws := hR.below.size
      have hrlt := hrow.lt
      have hRel : CrI w st a As Ns x.1 x.2 g g2 gl pc 0 (.slice va1 x.1.length vc1) ⟨x.1, fun _ => none, 0, 0⟩ Oc (fun k => k = gl) wc := by
        refine ⟨rfl, hR.ints, hR.cap, hR.wfs, ?_, rfl, ?_, fun k hk => ?_, fun k hk => ?_, hrow.below hbrc, fun hne => (hg21 hne).2.2, hR.below.trans (hbrc.mono hrws), Nat.le_refl _, Nat.le_refl _, fun n _ => rfl⟩
        · exact hAR0.keep (O' := fun _ => False) rfl (Keeps.of_below (hbb.trans (hbc.mono (by omega)))) (fun _ _ h => h)
        · have : roomF x.2 0 = x.2 := by unfold roomF; simp
          rw [this]; exact hR.d.below hbrc
        · have := hR.o k hk
          omega
        · have := hR.o
          refine ⟨by omega, by omega, by omega, by omega, fun hh => by have := (hR.o k hh).2.1; omega⟩
      have HG21 := Lib.hid (fun hne => (hg21 hne).1)
      have HNM := Lib.hid hNm
      have HNN := Lib.hid hNn
      have HNS := Lib.hid hNs2
      clear hsort hS hf hDa d0 d1 d2 d3 d4 hL1 hmk2 hbb hbc hba hbrc hwa hSec hNs hNs2 hNn hNm hg21 hAR0 k1 k2 k3 hyl hDw
      have HR := Lib.hid hR
      clear hR hrow ca hg22
      go_wp2_with fail
      go_loopw [1, 37] (fun x1 x37 wq => ∃ (j : Nat) (u : Value) (c : Cr) (Oc Oin : Nat → Prop), x1 = u ∧ x37 = .int .i64 j ∧ j ≤ Ns.length ∧ CrI w st a As Ns x.1 x.2 g g2 gl pc j u c Oc Oin wq) (fun _ x37 _ => Ns.length - (intOf x37).toNat)
      case atStart => exact ⟨0, _, _, Oc, _, rfl, rfl, Nat.zero_le _, hRel⟩
      case round =>
        clear hRel
        obtain ⟨j, u, c, Oc, Oin, rfl, rfl, hj, hI⟩ := hrel
        obtain ⟨va2, vc2, hvp⟩ := Ints.form hI.ints
        subst hvp
        by_cases hlt2 : (j : Int) < (Ns.length : Int)
        · have hjN : j < Ns.length := by omega
          have hne2 : Ns ≠ [] := fun e => by rw [e] at hjN; cases hjN
          obtain rfl := HG21.out hne2
          have hrow2 := hI.rowi hne2
          obtain ⟨n, hn⟩ : ∃ n, Ns[j]'hjN = n := ⟨_, rfl⟩
          have hn' : Ns.toArray[j]! = n := by rw [getElem!_pos _ _ (by simpa using hjN)]; simpa using hn
          have cn := hrow2.cell (j := j) (by simpa using hjN) hn'
          have hnmem : n ∈ Ns := by rw [← hn]; exact List.getElem_mem _
          obtain ⟨hnwf, hnF⟩ := HNM.out n hnmem
          obtain ⟨s, hs⟩ := Option.isSome_iff_exists.1 hnF
          obtain ⟨L, sy⟩ := s
          have hDq := hD.keep (O' := fun _ => False) (Keeps.of_below hI.below) (fun _ _ h => h)
          obtain ⟨d0, d1, d2, d3, d4⟩ := hDq.cells
          have hL1 := hDq.area hawf
          rw [hga] at hL1
          obtain ⟨sv, hL2, hVs, hLne⟩ := hDq.sector1 hnwf hs
          rw [hga] at hL2
          have hLl := HV.out _ _ _ _ hs
          have hVs' := Lib.hid hVs
          obtain ⟨h63, av, cv, rfl, hlc, hnil, hcell⟩ := hVs
          obtain ⟨B, hB⟩ : ∃ B, wr.heap.size = B := ⟨_, rfl⟩
          obtain ⟨wz, hwz⟩ : ∃ wz, wr.alloc (.cells #[.slice av L.length cv, .bool sy] 68) = wz := ⟨_, rfl⟩
          have hbz : Below wr.heap.size wr wz := by rw [← hwz]; exact (Below.refl _ _).alloc (Nat.le_refl _) _
          have hsz : wz.heap.size = B + 1 := by rw [← hwz, ← hB]; simp
          have hBB : Blk wz B 68 #[.slice av L.length cv, .bool sy] := by rw [← hwz, ← hB]; exact Blk.alloc_new _ _ _
          obtain ⟨z0, z1⟩ := blk2 hBB
          have hIz := hI.low hbz
          have hVz : Vers O wz (.slice av L.length cv) L := hVs'.out.keep (O' := fun _ => False) (Keeps.of_below hbz) (fun _ _ h => h)
          have HIz := Lib.hid hIz
          have HVz := Lib.hid hVz
          have HU := Lib.hid (useF_eq (L, sy) c.picks)
          have hpl : c.picks.length ≤ 140737488355328 := hI.ints.1
          obtain ⟨pl, hplN⟩ : ∃ pl, c.picks.length = pl := ⟨_, rfl⟩
          obtain ⟨ll, hll⟩ : ∃ ll, L.length = ll := ⟨_, rfl⟩
          have HPL := Lib.hid hplN
          have HLL := Lib.hid hll
          rw [hplN] at hpl ⊢
          rw [hll] at z0 hwz hL2 hLl
          have HI0 := Lib.hid hI
          clear hI hIz hVz hVs' hcell hnil hrow2 hplN hll hBB
          go_upto_region 11 with fail
          go_cut [62] (fun s62 wx => s62 = .bool (useF (L, sy) c.picks) ∧ wx = wz)
          case first =>
            have e1 : (((L, sy) : Sec).1.length : Int) = (ll : Int) := by show (L.length : Int) = _; rw [HLL.out]
            have HE1 := Lib.hid e1
            clear e1
            by_cases hp0 : (0 : Int) < (pl : Int)
            · cases sy
              · go_wp2_with fail
                go_meet
                exact ⟨by rw [HU.out, HE1.out, HPL.out]; simp; omega, rfl⟩
              · go_wp2_with fail
                all_goals go_meet
                all_goals exact ⟨by rw [HU.out, HE1.out, HPL.out]; simp; omega, rfl⟩
            · go_wp2_with fail
              go_meet
              exact ⟨by rw [HU.out, HE1.out, HPL.out]; simp; omega, rfl⟩
          case rest =>
            obtain ⟨rfl, hwx⟩ := hcut
            rw [hwx]
            clear hwx
            go_upto_if 62 with fail
            go_cut [1, 12] (fun s1 s12 wx => ∃ u : Value, s1 = u ∧ (Ints w .i64 u (restF (L, sy) c.picks) ∧ CapV u) ∧ s12 = .int .i64 (pickF (L, sy) c.picks) ∧ wx = wz)
            case first =>
              have hints := HI0.out.ints
              rw [HPL.out] at hints
              have hcp := HI0.out.cap
              rw [HPL.out] at hcp
              have hcp' : pl ≤ vc2 := hcp
              cases huse : useF (L, sy) c.picks
              · have e1 : restF (L, sy) c.picks = c.picks := by unfold restF; rw [huse]; rfl
                have e2 : pickF (L, sy) c.picks = 0 := by unfold pickF; rw [huse]; rfl
                go_wp2_with fail
                go_meet
                exact ⟨_, rfl, ⟨by rw [e1]; exact hints, hcp⟩, by rw [e2], rfl⟩
              · have e1 : restF (L, sy) c.picks = c.picks.tail := by unfold restF; rw [huse]; rfl
                have e2 : pickF (L, sy) c.picks = c.picks.headD 0 := by unfold pickF; rw [huse]; rfl
                have hp0 : 0 < pl := by
                  have h1 := HU.out
                  rw [huse, HPL.out] at h1
                  by_cases hq : (0 : Int) < (pl : Int)
                  · omega
                  · rw [decide_eq_false hq] at h1; cases h1
                obtain ⟨y, hy⟩ : ∃ y, c.picks.getD 0 0 = y := ⟨_, rfl⟩
                obtain ⟨b1, o1, rfl, hb1w, cy⟩ := Ints.at_ hints (k := 0) (by rw [HPL.out]; exact hp0) hy
                have hhd : c.picks.headD 0 = y := by rw [← hy]; cases c.picks <;> rfl
                obtain ⟨pk, rfl⟩ : ∃ pk, pl = pk + 1 := ⟨pl - 1, by omega⟩
                have htail := ints_tail hints
                have cy2 : wz.cell? ⟨b1, o1, none⟩ = some (.int .i64 y) := (HIz.out.below.cell (p := ⟨b1, o1, none⟩) hb1w).trans cy
                by_cases hv1 : vc2 - 1 = 0
                · obtain rfl : pk = 0 := by omega
                  obtain rfl : vc2 = 1 := by omega
                  have htl : c.picks.tail = [] := by
                    apply List.eq_nil_of_length_eq_zero
                    rw [List.length_tail, HPL.out]
                  go_wp2_with fail
                  go_meet
                  exact ⟨_, rfl, ⟨by rw [e1, htl]; exact ⟨by simp, .inl ⟨rfl, .inr ⟨_, _, rfl⟩⟩⟩, Nat.le_refl 0⟩, by rw [e2, hhd], rfl⟩
                · have hv2 : ¬ vc2 = 1 := by omega
                  have hv3 : ¬ vc2 ≤ 1 := by omega
                  go_wp2_with fail
                  go_meet
                  exact ⟨_, rfl, ⟨by rw [e1]; exact htail, by show pk ≤ vc2 - 1; omega⟩, by rw [e2, hhd], rfl⟩
            case rest =>
              obtain ⟨u2, rfl, ⟨hu2, hu2c⟩, rfl, hwx⟩ := hcut
              rw [hwx]
              clear hwx
              have hpkwf : (Lit.int .i64 (pickF (L, sy) c.picks)).wf = true := by
                unfold pickF
                split
                · cases hq : c.picks with
                  | nil => decide
                  | cons y r => exact HI0.out.wfs y (by rw [hq]; exact List.mem_cons_self)
                · decide
              have hwfs2 : ∀ y ∈ restF (L, sy) c.picks, (Lit.int .i64 y).wf = true := fun y hy => by
                unfold restF at hy
                split at hy
                · exact HI0.out.wfs y (List.mem_of_mem_tail hy)
                · exact HI0.out.wfs y hy
              obtain ⟨pick, hpick⟩ : ∃ pick, pickF (L, sy) c.picks = pick := ⟨_, rfl⟩
              obtain ⟨rest, hrest⟩ : ∃ rest, restF (L, sy) c.picks = rest := ⟨_, rfl⟩
              rw [hpick] at hpkwf ⊢
              rw [hrest] at hwfs2 hu2
              have hfind := found_any O (.slice av L.length cv) L sy pick wz HVz.out hLne (by rw [HLL.out]; exact hLl) hpkwf
              rw [HLL.out] at hfind
              have hfold : (Ns.take (j + 1)).foldl (crIn (st.F a)) ⟨x.1, fun _ => none, 0, 0⟩ = crIn (st.F a) c n := by
                rw [List.take_add_one, List.getElem?_eq_getElem hjN, hn, List.foldl_append, ← HI0.out.fold]; rfl
              have hcr : crIn (st.F a) c n = match foundF (L, sy) pick with
                  | some v => { picks := rest, F := updS c.F n (some ([v], true)), cnt := c.cnt + 1, miss := c.miss }
                  | none => { c with picks := rest, miss := c.miss + 1 } := by
                unfold crIn
                rw [hs]
                simp only [hpick, hrest]
                cases foundF (L, sy) pick <;> rfl
              have HWF := Lib.hid hwfs2
              have HFO := Lib.hid (hfold.trans hcr)
              clear hfold hcr hpick hrest hwfs2
              cases hfo : foundF (L, sy) pick with
              | none =>
                rw [hfo] at hfind HFO
                go_wp2_with fail
                refine hfind.mono ?_
                rintro e wf ⟨rfl, hbf⟩
                have hIf := HIz.out.low hbf
                obtain ⟨tD, tK, tc, tf, tO⟩ := room_turn hIf.d
                have HT := Lib.hid tD
                have HTK := Lib.hid tK
                have hcm := hIf.miss
                have hr0 := HR.out.room0
                have hr1 := HR.out.room
                have hmul := HSUM.out _ (HAN.out.sublist (List.take_sublist (i + 1) As))
                rw [List.take_add_one, List.getElem?_eq_getElem hiA, ha, List.map_append, List.sum_append] at hmul
                simp only [Option.toList_some, List.map_cons, List.map_nil, List.sum_cons, List.sum_nil, Nat.add_zero] at hmul
                have hnl := HNL.out
                obtain ⟨rm, hrm⟩ : ∃ rm, x.2.room + (c.miss : Nat) = rm := ⟨_, rfl⟩
                rw [hrm] at tc HT HTK
                have hrm2 : 0 ≤ rm ∧ rm < 9223372036854775807 := by omega
                have hinext : IntKind.i64.wrap ((j : Int) + 1) = ((j + 1 : Nat) : Int) := IntWalk.i64_in _ (by omega)
                have HIF := Lib.hid hIf
                clear hIf tD tK hr0 hr1 hmul hrm hfind hnl
                go_wp2_with fail
                have hkp := HTK.out
                have hIq := HIF.out
                have hg := hIq.oc pc tO
                have hfo' := HFO.out
                refine ⟨⟨j + 1, _, ⟨rest, c.F, c.cnt, c.miss + 1⟩, Oc, Oin, rfl, rfl, by omega, ?_⟩, ?_⟩
                · refine ⟨hfo'.symm, hu2, hu2c, HWF.out, hIq.area.keep hIq.ogl hkp (fun k hk e => by subst e; exact (hIq.oin k hk).2.2.2.2 tO), hIq.ogl, HT.out, fun k hk => ?_, fun k hk => ?_, rowU_keep hIq.row hkp (fun e => hg.2.2.1 e.symm), fun hne => rowI_keep (hIq.rowi hne) hkp (fun e => hg.2.2.2 e.symm), hkp.below hIq.below hIq.below.size (fun x hx => by subst hx; exact hg.1), ?_, ?_, fun n' hn' => hIq.none_ n' (fun hm => hn' ?_)⟩
                  · have := hIq.oc k hk; have := hkp.size; omega
                  · obtain ⟨z1, z2, z3, z4, z5⟩ := hIq.oin k hk; have := hkp.size; exact ⟨z1, by omega, z3, z4, z5⟩
                  · have := hIq.cnt; show c.cnt ≤ _; omega
                  · have := hIq.miss; show c.miss + 1 ≤ _; omega
                  · rw [List.take_add_one]; exact List.mem_append.2 (.inl hm)
                · show Ns.length - ((j + 1 : Nat) : Int).toNat < Ns.length - ((j : Nat) : Int).toNat
                  omega
              | some V =>
                rw [hfo] at hfind HFO
                go_wp2_with fail
                refine hfind.mono ?_
                rintro e wf ⟨rfl, hbf⟩
                have hIf := HIz.out.low hbf
                have hbn : Below wf.heap.size wf (wf.alloc (.cells #[.string V] 9)) := (Below.refl _ _).alloc (Nat.le_refl _) _
                have hVn := vers_new wf V
                have hIn := hIf.low hbn
                have hFn : c.F n = none := hIf.none_ n (by
                  intro hm
                  have hnd := HNN.out
                  obtain ⟨q, hq, hqe⟩ := List.mem_iff_getElem.1 hm
                  rw [List.length_take] at hq
                  rw [List.getElem_take] at hqe
                  have := (List.getElem_inj hnd).1 (hqe.trans hn.symm)
                  omega)
                have hAn := hIn.area.mono (O' := fun k => Oin k ∨ k = wf.heap.size) (fun k hk => .inl hk)
                have hVn2 := hVn.mono (O' := fun k => Oin k ∨ k = wf.heap.size) (fun k hk => .inr hk)
                have hcc := hIf.cnt
                obtain ⟨wh, hrunU, hAU, hKU, hzU⟩ := hAn.put (.inl hIn.ogl) hnwf (by unfold maxLen; omega) hFn hVn2 (List.cons_ne_nil _ _) (s := true)
                have hinext : IntKind.i64.wrap ((j : Int) + 1) = ((j + 1 : Nat) : Int) := IntWalk.i64_in _ (by omega)
                have HIN := Lib.hid hIn
                have HIF := Lib.hid hIf
                have HAU := Lib.hid hAU
                have hsn : (wf.alloc (.cells #[.string V] 9)).heap.size = wf.heap.size + 1 := by simp
                have HSN := Lib.hid hsn
                have HKU := Lib.hid hKU
                clear hIf hbn hVn hIn hAn hVn2 hAU hKU hfind hsn
                go_wp2_with fail
                have hkp := HKU.out
                have hIq := HIN.out
                have hog := hIq.oin gl hIq.ogl
                have hfo' := HFO.out
                have hs5 := HSN.out
                refine ⟨⟨j + 1, _, ⟨rest, updS c.F n (some ([V], true)), c.cnt + 1, c.miss⟩, Oc, (fun k => Oin k ∨ k = wf.heap.size), rfl, rfl, by omega, ?_⟩, ?_⟩
                · refine ⟨hfo'.symm, hu2, hu2c, HWF.out, HAU.out, .inl hIq.ogl, hIq.d.keep hkp (fun k hk e => by subst e; exact hog.2.2.2.2 hk), fun k hk => ?_, fun k hk => ?_, rowU_keep hIq.row hkp (fun e => hog.2.2.1 e.symm), fun hne => rowI_keep (hIq.rowi hne) hkp (fun e => hog.2.2.2.1 e.symm), hkp.below hIq.below hIq.below.size (fun x hx => by subst hx; exact hog.1), ?_, ?_, fun n' hn' => ?_⟩
                  · have := hIq.oc k hk; have := hkp.size; omega
                  · rcases hk with hk | rfl
                    · obtain ⟨z1, z2, z3, z4, z5⟩ := hIq.oin k hk; have := hkp.size; exact ⟨z1, by omega, z3, z4, z5⟩
                    · have q1 := HIF.out.row.lt
                      have q2 := (HIF.out.rowi hne2).lt
                      have q3 := hkp.size
                      have q4 := HIF.out.below.size
                      exact ⟨by omega, by omega, by omega, by omega, fun hh => by have := (HIF.out.oc _ hh).2.1; omega⟩
                  · have := hIq.cnt; show c.cnt + 1 ≤ _; omega
                  · have := hIq.miss; show c.miss ≤ _; omega
                  · show updS c.F n _ n' = none
                    unfold updS
                    rw [List.take_add_one, List.getElem?_eq_getElem hjN, hn] at hn'
                    rw [if_neg (fun e => hn' (List.mem_append.2 (.inr (by rw [e]; simp))))]
                    exact hIq.none_ n' (fun hm => hn' (List.mem_append.2 (.inl hm)))
                · show Ns.length - ((j + 1 : Nat) : Int).toNat < Ns.length - ((j : Nat) : Int).toNat
                  omega
        · have hjE : j = Ns.length := by omega
          subst hjE
          have hcE := hI.fold
          rw [List.take_length] at hcE
          have hcE2 : c = crIns (st.F a) Ns x.1 := hcE
          obtain ⟨S, hS, hf⟩ := hI.area
          have hlen := hS.len Tryz.underlying62 3
          have hnew : (As.take (i + 1)).foldl (crOut st (secsL st)) (ps, newSt st.room) = (c.picks, if c.cnt = 0 then roomF x.2 c.miss else layA (roomF x.2 c.miss) a c.F c.cnt) := by
            rw [List.take_add_one, List.getElem?_eq_getElem hiA, ha, List.foldl_append, ← HR.out.fold]
            show crOut st (secsL st) x a = _
            unfold crOut
            rw [← HNS.out, ← hcE2]
          have HNEW := Lib.hid hnew
          have hinext : IntKind.i64.wrap ((i : Int) + 1) = ((i + 1 : Nat) : Int) := IntWalk.i64_in _ (by omega)
          have hcn := hI.cnt
          have hcm := hI.miss
          have htk : ∀ a', a' ∉ As.take (i + 1) → a' ≠ a ∧ a' ∉ As.take i := fun a' h' => by
            rw [List.take_add_one, List.getElem?_eq_getElem hiA, ha] at h'
            exact ⟨fun e => h' (List.mem_append.2 (.inr (by rw [e]; simp))), fun e => h' (List.mem_append.2 (.inl e))⟩
          have HTKK := Lib.hid htk
          have HI1 := Lib.hid hI
          by_cases hc0 : c.cnt = 0
          · rw [hc0] at hlen
            clear hS hf hI hcE hcE2 hnew htk
            go_wp2_with fail
            have hIq := HI1.out
            have hRq := HR.out
            refine ⟨⟨i + 1, _, (c.picks, roomF x.2 c.miss), Oc, rfl, rfl, by omega, ?_⟩, ?_⟩
            · refine ⟨?_, hIq.ints, hIq.cap, hIq.wfs, hIq.d, fun k hk => ?_, fun _ => hIq.row, hIq.below, ?_, ?_, ?_, fun a' h' => hRq.none_ a' (HTKK.out a' h').2⟩
              · rw [HNEW.out, if_pos hc0]
              · have := hIq.oc k hk; omega
              · have := hRq.C; show x.2.C ≤ _; omega
              · have h1 := hRq.room; show x.2.room + (c.miss : Nat) ≤ _; rw [List.take_add_one, List.getElem?_eq_getElem hiA, ha, List.map_append, List.sum_append]; simp only [Option.toList_some, List.map_cons, List.map_nil, List.sum_cons, List.sum_nil, Nat.add_zero]; have := HNL.out; omega
              · have := hRq.room0; show 0 ≤ x.2.room + (c.miss : Nat); omega
            · show As.length - ((i + 1 : Nat) : Int).toNat < As.length - ((i : Nat) : Int).toNat
              omega
          · obtain ⟨m2, G2, hD2⟩ := hI.d
            obtain ⟨e0, e1, e2, e3, e4⟩ := hD2.cells
            have hani : a ∉ As.take i := by
              intro hm
              obtain ⟨q, hq, hqe⟩ := List.mem_iff_getElem.1 hm
              rw [List.length_take] at hq
              rw [List.getElem_take] at hqe
              have := (List.getElem_inj HAN.out).1 (hqe.trans ha.symm)
              omega
            have hG2 : G2 a = none := by
              have h1 := hD2.present a
              have h2 : (roomF x.2 c.miss).A a = false := HR.out.none_ a hani
              rw [h2] at h1
              cases hq : G2 a with
              | none => rfl
              | some q => rw [hq] at h1; cases h1
            have hCx := HR.out.C
            have hgm2 : gl ≠ m2 := fun e => (hI.oin gl hI.ogl).2.2.2.2 (e ▸ hD2.om)
            obtain ⟨wh, hrunU, hDU, hKU, hzU⟩ := hD2.attach hG2 hawf (by show x.2.C < maxLen; unfold maxLen; omega) hI.area hI.ogl (fun k hk => (hI.oin k hk).2.2.2.2) hgm2
            have HDU := Lib.hid hDU
            have HKU := Lib.hid hKU
            have hom2 := Lib.hid (hI.oc m2 hD2.om)
            have hc1 : (0 : Int) < (c.cnt : Int) := by omega
            clear hS hf hI hcE hcE2 hnew htk hDU hKU hD2 hani hG2 e0 e1 e3 e4
            go_wp2_with fail
            have hIq := HI1.out
            have hRq := HR.out
            have hkp := HKU.out
            have hom := hom2.out
            refine ⟨⟨i + 1, _, (c.picks, layA (roomF x.2 c.miss) a c.F c.cnt), (fun k => Oc k ∨ Oin k), rfl, rfl, by omega, ?_⟩, ?_⟩
            · refine ⟨?_, hIq.ints, hIq.cap, hIq.wfs, ⟨_, _, HDU.out⟩, fun k hk => ?_, fun _ => rowU_keep hIq.row hkp (fun e => hom.2.2.1 e.symm), hkp.below hIq.below hIq.below.size (fun x hx => by subst hx; exact hom.1), ?_, ?_, ?_, fun a' h' => ?_⟩
              · rw [HNEW.out, if_neg hc0]
              · rcases hk with hk | hk
                · have := hIq.oc k hk; have := hkp.size; omega
                · have := hIq.oin k hk; have := hkp.size; omega
              · have := hRq.C; show x.2.C + 1 ≤ _; omega
              · have h1 := hRq.room; show x.2.room + (c.miss : Nat) ≤ _; rw [List.take_add_one, List.getElem?_eq_getElem hiA, ha, List.map_append, List.sum_append]; simp only [Option.toList_some, List.map_cons, List.map_nil, List.sum_cons, List.sum_nil, Nat.add_zero]; have := HNL.out; omega
              · have := hRq.room0; show 0 ≤ x.2.room + (c.miss : Nat); omega
              · show updA x.2.A a true a' = false
                unfold updA
                rw [if_neg (HTKK.out a' h').1]
                exact hRq.none_ a' (HTKK.out a' h').2
            · show As.length - ((i + 1 : Nat) : Int).toNat < As.length - ((i : Nat) : Int).toNat
              omega
    · have hiE : i = As.length := by omega
      subst hiE
      have hfE := hR.fold
      rw [List.take_length] at hfE
      have HR := Lib.hid hR
      clear hR
      go_wp2_with fail
      go_ret
      have hRq := HR.out
      refine ⟨pc, rfl, Oc, ?_, fun k hk => ?_, hRq.below⟩
      · have : (crashF st (areasL st) (secsL st) ps) = x := by unfold crashF; rw [← HAS.out]; exact hfE.symm
        rw [this]; exact hRq.d
      · have := hRq.o k hk; omega
end Go.Proofs.YtcpkpljeimbdiaaGreat.K
namespace Go.Proofs.YtcpkpljeimbdiaaGreat.W
open Go.RowKit
open Aid K
set_option linter.unusedSimpArgs false
set_option linter.unusedVariables false
theorem areas_ex {O : Nat → Prop} {p : Nat} {st : DSt} {w : World} (h : DiskIs O w p st) (hc : st.C ≤ 4398046511104) : ∃ xs, AreasOf st xs := by
  obtain ⟨e, w', fr, ⟨v, xs, _, hx, _⟩, _⟩ := areas_any O p st w h hc []
  exact ⟨xs, hx.1⟩
theorem secs_ex {O : Nat → Prop} {p : Nat} {st : DSt} {w : World} (h : DiskIs O w p st) (a : Int) (hN : st.N a ≤ 4398046511104) : ∃ xs, SecsOf st a xs := by
  obtain ⟨m, G, hD⟩ := h
  cases hG : G a with
  | none =>
    obtain ⟨h1, _⟩ := hD.empty a hG
    exact ⟨[], List.nodup_nil, (fun x hx => by cases hx), fun x _ => ⟨(fun hx => by cases hx), fun hx => by rw [h1 x] at hx; cases hx⟩⟩
  | some g =>
    obtain ⟨_, _, S, hS, hf⟩ := hD.inner a g hG
    have hb : Below w.heap.size w (w.alloc (.cells #[.map (some g)] 62)) := (Below.refl _ _).alloc (Nat.le_refl _) _
    have hc : (w.alloc (.cells #[.map (some g)] 62)).cell? ⟨w.heap.size, 0, none⟩ = some (.map (some g)) := cell_new _ _ _ _ rfl
    obtain ⟨e, w', fr, ⟨v, xs, _, ⟨⟨k1, k2, k3⟩, _⟩, _⟩, _⟩ := QI.sorted_any w.heap.size g (st.N a) S _ hN (by simp) hc (hS.kept (hb.block g hS.lt)) []
    refine ⟨xs, k1, k2, fun x hx => ?_⟩
    rw [k3 x hx]
    cases hF : st.F a x with
    | none => rw [(hf x).1 hF]; simp
    | some s => obtain ⟨v', e1, _⟩ := (hf x).2 s hF; rw [e1]; simp
def Fnd (o o' : Option Sec) : Prop := (o = none → o' = none) ∧ ∀ L s, o = some (L, s) → ((o' = none ∧ (s = true → L = [])) ∨ ∃ V ∈ L, o' = some ([V], true)) ∧ (s = true → ∀ V, L = [V] → o' = some ([V], true))
theorem found_one {V : ByteArray} {k : Int} : foundF ([V], true) k = some V := by
  unfold foundF
  rw [if_pos rfl]
  simp [Nat.mod_one]
theorem found_in {s : Sec} {k : Int} {V : ByteArray} (h : foundF s k = some V) : V ∈ s.1 := by
  unfold foundF at h
  split at h
  · exact List.mem_of_getElem? h
  · split at h
    · cases h
    · exact List.mem_of_getElem? h
theorem found_syn {L : List ByteArray} {k : Int} (h : foundF (L, true) k = none) : L = [] := by
  unfold foundF at h
  rw [if_pos rfl] at h
  have h1 := List.getElem?_eq_none_iff.1 h
  cases L with
  | nil => rfl
  | cons a t =>
    have := Nat.mod_lt (max k 0).toNat (show 0 < (a :: t).length by simp)
    simp only at h1
    omega
theorem crIn_F (Fa : Int → Option Sec) (c : Cr) (n : Int) (h : c.F n = none) : (∀ y, y ≠ n → (crIn Fa c n).F y = c.F y) ∧ Fnd (Fa n) ((crIn Fa c n).F n) ∧ (crIn Fa c n).cnt = c.cnt + (if ((crIn Fa c n).F n).isSome = true then 1 else 0) := by
  cases hF : Fa n with
  | none =>
    have e : crIn Fa c n = c := by unfold crIn; rw [hF]
    rw [e]
    exact ⟨fun _ _ => rfl, ⟨fun _ => h, fun L s e => (by cases e)⟩, by rw [h]; rfl⟩
  | some s =>
    cases hf : foundF s (pickF s c.picks) with
    | none =>
      have e : crIn Fa c n = { c with picks := restF s c.picks, miss := c.miss + 1 } := by unfold crIn; rw [hF]; dsimp only; rw [hf]
      rw [e]
      refine ⟨fun _ _ => rfl, ⟨(fun e => by cases e), fun L sb e => ?_⟩, by show c.cnt = c.cnt + (if (c.F n).isSome = true then 1 else 0); rw [h]; rfl⟩
      cases e
      refine ⟨.inl ⟨h, fun hs => found_syn (hs ▸ hf)⟩, fun hs V hV => ?_⟩
      subst hs
      subst hV
      rw [found_one] at hf
      cases hf
    | some v =>
      have e : crIn Fa c n = { picks := restF s c.picks, F := updS c.F n (some ([v], true)), cnt := c.cnt + 1, miss := c.miss } := by unfold crIn; rw [hF]; dsimp only; rw [hf]
      rw [e]
      have hu : updS c.F n (some ([v], true)) n = some ([v], true) := by unfold updS; rw [if_pos rfl]
      refine ⟨fun y hy => ?_, ⟨(fun e => by cases e), fun L sb e => ?_⟩, by show c.cnt + 1 = c.cnt + (if (updS c.F n (some ([v], true)) n).isSome = true then 1 else 0); rw [hu]; rfl⟩
      · show updS c.F n (some ([v], true)) y = _
        unfold updS; rw [if_neg hy]
      · cases e
        show ((updS c.F n (some ([v], true)) n = none ∧ (sb = true → L = [])) ∨ ∃ V ∈ L, updS c.F n (some ([v], true)) n = some ([V], true)) ∧ (sb = true → ∀ V, L = [V] → updS c.F n (some ([v], true)) n = some ([V], true))
        rw [hu]
        refine ⟨.inr ⟨v, found_in hf, rfl⟩, fun hs V hV => ?_⟩
        subst hs
        subst hV
        rw [found_one] at hf
        cases hf
        rfl
theorem crFold (Fa : Int → Option Sec) : ∀ (Ns : List Int) (c : Cr), Ns.Nodup → (∀ n ∈ Ns, c.F n = none) →
    (∀ y, y ∉ Ns → (Ns.foldl (crIn Fa) c).F y = c.F y) ∧ (∀ n ∈ Ns, Fnd (Fa n) ((Ns.foldl (crIn Fa) c).F n)) ∧ c.cnt ≤ (Ns.foldl (crIn Fa) c).cnt ∧ (Ns.foldl (crIn Fa) c).cnt ≤ c.cnt + Ns.length ∧ ((Ns.foldl (crIn Fa) c).cnt = c.cnt → ∀ n ∈ Ns, (Ns.foldl (crIn Fa) c).F n = none) ∧ (c.cnt < (Ns.foldl (crIn Fa) c).cnt → ∃ n ∈ Ns, ((Ns.foldl (crIn Fa) c).F n).isSome = true)
  | [], c, _, _ => ⟨fun _ _ => rfl, (fun n hn => by cases hn), Nat.le_refl _, Nat.le_refl _, (fun _ n hn => by cases hn), fun h => absurd h (Nat.lt_irrefl _)⟩
  | n :: Ns, c, hnd, hc => by
    obtain ⟨h1, h2, h3⟩ := crIn_F Fa c n (hc n (by simp))
    have hn : n ∉ Ns := (List.nodup_cons.1 hnd).1
    obtain ⟨q1, q2, q3, q4, q5, q6⟩ := crFold Fa Ns (crIn Fa c n) (List.nodup_cons.1 hnd).2 (fun y hy => by
      rw [h1 y (fun e => hn (e ▸ hy))]
      exact hc y (by simp [hy]))
    rw [List.foldl_cons]
    refine ⟨fun y hy => ?_, fun y hy => ?_, ?_, ?_, fun he y hy => ?_, fun hl => ?_⟩
    · rw [q1 y (fun h => hy (by simp [h])), h1 y (fun e => hy (by simp [e]))]
    · rcases List.mem_cons.1 hy with rfl | hy
      · rw [q1 _ hn]; exact h2
      · exact q2 y hy
    · split at h3 <;> omega
    · simp only [List.length_cons]
      split at h3 <;> omega
    · have h0 : ((crIn Fa c n).F n).isSome = false := by
        cases hb : ((crIn Fa c n).F n).isSome with
        | false => rfl
        | true => rw [hb] at h3; simp at h3; omega
      rw [h0] at h3
      simp at h3
      rcases List.mem_cons.1 hy with rfl | hy
      · rw [q1 _ hn]
        cases hz : (crIn Fa c y).F y with
        | none => rfl
        | some z => rw [hz] at h0; cases h0
      · exact q5 (by omega) y hy
    · by_cases hb : ((crIn Fa c n).F n).isSome = true
      · exact ⟨n, by simp, by rw [q1 _ hn]; exact hb⟩
      · rw [if_neg hb] at h3
        obtain ⟨y, hy, hy2⟩ := q6 (by omega)
        exact ⟨y, by simp [hy], hy2⟩
theorem crOutF (st : DSt) (Ns : Int → List Int) : ∀ (As : List Int) (x : List Int × DSt), As.Nodup → (∀ a, (Ns a).Nodup) → (∀ a ∈ As, ∀ n, x.2.F a n = none) → (∀ a ∈ As, x.2.A a = false) →
    (∀ a, a ∉ As → ∀ n, (As.foldl (crOut st Ns) x).2.F a n = x.2.F a n) ∧ (∀ a, a ∉ As → (As.foldl (crOut st Ns) x).2.A a = x.2.A a) ∧
    (∀ a ∈ As, (∀ n ∈ Ns a, Fnd (st.F a n) ((As.foldl (crOut st Ns) x).2.F a n)) ∧ (∀ n, n ∉ Ns a → (As.foldl (crOut st Ns) x).2.F a n = none) ∧ ((As.foldl (crOut st Ns) x).2.A a = true ↔ ∃ n ∈ Ns a, ((As.foldl (crOut st Ns) x).2.F a n).isSome = true)) ∧
    (As.foldl (crOut st Ns) x).2.C ≤ x.2.C + As.length ∧ (As.foldl (crOut st Ns) x).2.dead = x.2.dead ∧ (As.foldl (crOut st Ns) x).2.left = x.2.left ∧ (As.foldl (crOut st Ns) x).2.steps = x.2.steps
  | [], x, _, _, _, _ => ⟨fun _ _ _ => rfl, fun _ _ => rfl, (fun a ha => by cases ha), Nat.le_refl _, rfl, rfl, rfl⟩
  | a :: As, x, hnd, hN, hF, hA => by
    have ha : a ∉ As := (List.nodup_cons.1 hnd).1
    obtain ⟨c1, c2, c3, c4, c5, c6⟩ := crFold (st.F a) (Ns a) ⟨x.1, fun _ => none, 0, 0⟩ (hN a) (fun _ _ => rfl)
    obtain ⟨c, hc⟩ : ∃ c, (Ns a).foldl (crIn (st.F a)) ⟨x.1, fun _ => none, 0, 0⟩ = c := ⟨_, rfl⟩
    rw [hc] at c1 c2 c3 c4 c5 c6
    simp only at c1 c3 c4 c5 c6
    have hy : crOut st Ns x a = (c.picks, if c.cnt = 0 then roomF x.2 c.miss else layA (roomF x.2 c.miss) a c.F c.cnt) := by unfold crOut crIns; simp only [hc]
    obtain ⟨y, hye⟩ : ∃ y, crOut st Ns x a = y := ⟨_, rfl⟩
    have hyF : ∀ b n, y.2.F b n = if b = a then c.F n else x.2.F b n := by
      intro b n
      rw [← hye, hy]
      simp only
      split
      · rename_i h0
        by_cases hb : b = a
        · rw [if_pos hb, hb]
          show x.2.F a n = _
          rw [hF a (by simp) n]
          by_cases hn : n ∈ Ns a
          · rw [c5 h0 n hn]
          · rw [c1 n hn]
        · rw [if_neg hb]; rfl
      · show (if b = a then c.F else x.2.F b) n = _
        split <;> rfl
    have hyA : ∀ b, y.2.A b = if b = a then decide (c.cnt ≠ 0) else x.2.A b := by
      intro b
      rw [← hye, hy]
      simp only
      split
      · rename_i h0
        by_cases hb : b = a
        · rw [if_pos hb, hb]
          show x.2.A a = _
          rw [hA a (by simp)]
          simp [h0]
        · rw [if_neg hb]; rfl
      · rename_i h0
        show updA x.2.A a true b = _
        unfold updA
        split
        · simp [h0]
        · rfl
    have hyC : y.2.C ≤ x.2.C + 1 ∧ y.2.dead = x.2.dead ∧ y.2.left = x.2.left ∧ y.2.steps = x.2.steps := by
      rw [← hye, hy]
      simp only
      split
      · exact ⟨Nat.le_succ _, rfl, rfl, rfl⟩
      · exact ⟨Nat.le_refl _, rfl, rfl, rfl⟩
    rw [List.foldl_cons, hye]
    obtain ⟨q1, q2, q3, q4, q5, q6, q7⟩ := crOutF st Ns As y (List.nodup_cons.1 hnd).2 hN (fun b hb n => by
      have hne : b ≠ a := fun e => ha (e ▸ hb)
      rw [hyF, if_neg hne]; exact hF b (by simp [hb]) n) (fun b hb => by
      have hne : b ≠ a := fun e => ha (e ▸ hb)
      rw [hyA, if_neg hne]; exact hA b (by simp [hb]))
    refine ⟨fun b hb n => ?_, fun b hb => ?_, fun b hb => ?_, by simp only [List.length_cons]; omega, q5.trans hyC.2.1, q6.trans hyC.2.2.1, q7.trans hyC.2.2.2⟩
    · rw [q1 b (fun h => hb (by simp [h])) n, hyF, if_neg (show b ≠ a from fun e => hb (by simp [e]))]
    · rw [q2 b (fun h => hb (by simp [h])), hyA, if_neg (show b ≠ a from fun e => hb (by simp [e]))]
    · rcases List.mem_cons.1 hb with rfl | hb
      · have e1 : ∀ n, (As.foldl (crOut st Ns) y).2.F b n = c.F n := fun n => by rw [q1 b ha n, hyF, if_pos rfl]
        refine ⟨fun n hn => by rw [e1]; exact c2 n hn, fun n hn => by rw [e1]; exact c1 n hn, ?_⟩
        rw [q2 b ha, hyA, if_pos rfl]
        simp only [e1]
        constructor
        · intro h
          have h2 : c.cnt ≠ 0 := of_decide_eq_true h
          exact c6 (by omega)
        · rintro ⟨n, hn, h⟩
          refine decide_eq_true fun h0 => ?_
          rw [c5 h0 n hn] at h
          cases h
      · exact q3 b hb
theorem crash_F {O : Nat → Prop} {p : Nat} {st : DSt} {w : World} (hD : DiskIs O w p st) (hC : st.C ≤ 4398046511104) (hN : ∀ a, st.N a ≤ 4398046511104) (hwf : ∀ a, st.A a = true → (Lit.int .u64 a).wf = true) (hwn : ∀ a n, (st.F a n).isSome = true → (Lit.int .i64 n).wf = true) (ps : List Int) :
    (∀ a n, Fnd (st.F a n) ((crashF st (areasL st) (secsL st) ps).2.F a n)) ∧ (∀ a, (crashF st (areasL st) (secsL st) ps).2.A a = true ↔ ∃ n, ((crashF st (areasL st) (secsL st) ps).2.F a n).isSome = true) ∧
    (crashF st (areasL st) (secsL st) ps).2.C ≤ (areasL st).length ∧ (crashF st (areasL st) (secsL st) ps).2.dead = false ∧ (crashF st (areasL st) (secsL st) ps).2.left = -1 ∧ (crashF st (areasL st) (secsL st) ps).2.steps = 0 := by
  obtain ⟨xs, hxs⟩ := areas_ex hD hC
  have hAl := areasL_eq hxs
  have hAn : (areasL st).Nodup := by rw [← hAl]; exact srt_nodup hxs.1
  have hS : ∀ a, ∃ ys, SecsOf st a ys := fun a => secs_ex hD a (hN a)
  have hSn : ∀ a, (secsL st a).Nodup := fun a => by
    obtain ⟨ys, hys⟩ := hS a
    rw [← secsL_eq hys]; exact srt_nodup hys.1
  have hSm : ∀ a n, n ∉ secsL st a → st.F a n = none := fun a n hn => by
    obtain ⟨ys, hys⟩ := hS a
    rw [← secsL_eq hys, srt_mem] at hn
    cases hF : st.F a n with
    | none => rfl
    | some s =>
      have h1 : (st.F a n).isSome = true := by rw [hF]; rfl
      exact absurd ((hys.2.2 n (hwn a n h1)).2 h1) hn
  have hAm : ∀ a, a ∉ areasL st → ∀ n, st.F a n = none := fun a ha n => by
    have hA : st.A a = false := by
      cases hh : st.A a with
      | false => rfl
      | true =>
        rw [← hAl, srt_mem] at ha
        exact absurd ((hxs.2.2 a (hwf a hh)).2 hh) ha
    obtain ⟨m, G, hd⟩ := hD
    have hG := hd.present a
    rw [hA] at hG
    cases hg : G a with
    | none => exact (hd.empty a hg).1 n
    | some g => rw [hg] at hG; cases hG
  obtain ⟨q1, q2, q3, q4, q5, q6, q7⟩ := crOutF st (secsL st) (areasL st) (ps, newSt st.room) hAn hSn (fun _ _ _ => rfl) (fun _ _ => rfl)
  have hnone : ∀ o' : Option Sec, o' = none → Fnd none o' := fun o' h => ⟨fun _ => h, fun L s e => by cases e⟩
  have hF : ∀ a n, Fnd (st.F a n) ((crashF st (areasL st) (secsL st) ps).2.F a n) := fun a n => by
    unfold crashF
    by_cases ha : a ∈ areasL st
    · by_cases hn : n ∈ secsL st a
      · exact (q3 a ha).1 n hn
      · rw [hSm a n hn]
        exact hnone _ ((q3 a ha).2.1 n hn)
    · rw [hAm a ha n]
      exact hnone _ (q1 a ha n)
  refine ⟨hF, fun a => ?_, by unfold crashF; refine Nat.le_trans q4 ?_; show 0 + _ ≤ _; omega, q5, q6, q7⟩
  by_cases ha : a ∈ areasL st
  · unfold crashF
    rw [(q3 a ha).2.2]
    constructor
    · rintro ⟨n, _, h⟩; exact ⟨n, h⟩
    · rintro ⟨n, h⟩
      refine ⟨n, ?_, h⟩
      by_cases hn : n ∈ secsL st a
      · exact hn
      · rw [(q3 a ha).2.1 n hn] at h; cases h
  · unfold crashF
    rw [q2 a ha]
    constructor
    · intro h; cases h
    · rintro ⟨n, h⟩
      rw [q1 a ha n] at h
      cases h
end Go.Proofs.YtcpkpljeimbdiaaGreat.W
namespace Go.Proofs.YtcpkpljeimbdiaaGreat.W
open Go.RowKit
open Aid K
set_option linter.unusedSimpArgs false
set_option linter.unusedVariables false
structure Pln (st : DSt) : Prop where
  vers : ∀ a n L s, st.F a n = some (L, s) → L ≠ [] ∧ ∀ V ∈ L, V.size = 64
  few : ∀ a n, (st.F a n).isSome = true → 0 ≤ n ∧ n < 65536
  pres : ∀ a, st.A a = true ↔ ∃ n, (st.F a n).isSome = true
  wfa : ∀ a, st.A a = true → 0 ≤ a ∧ a < 18446744073709551616
theorem Pln.sects {st : DSt} (h : Pln st) : Sects st := ⟨fun a m L s e => by
  obtain ⟨h1, h2⟩ := h.vers a m L s e
  refine ⟨h1, h2 _ ?_⟩
  rw [List.getLastD_eq_getLast?, List.getLast?_eq_some_getLast h1]
  exact List.getLast_mem h1, h.few⟩
theorem Pln.new (R : Int) : Pln (newSt R) := ⟨(fun a n L s e => by cases e), (fun a n e => by cases e), (fun a => ⟨(fun h => by cases h), fun ⟨n, h⟩ => by cases h⟩), (fun a h => by cases h)⟩
theorem Pln.same {st st' : DSt} (h : Pln st) (hF : st'.F = st.F) (hA : st'.A = st.A) : Pln st' := ⟨by rw [hF]; exact h.vers, by rw [hF]; exact h.few, by rw [hF, hA]; exact h.pres, by rw [hA]; exact h.wfa⟩
theorem wholeI_size {l : List Int} (h : l.length ≤ 64) : (wholeI l).size = 64 := by
  unfold wholeI whole; simp [ByteArray.size]; omega
theorem Pln.write {st : DSt} {a n : Int} {l : List Int} (h : Pln st) (ha : 0 ≤ a ∧ a < 18446744073709551616) (hn : 0 ≤ n ∧ n < 65536) (hl : l.length ≤ 64) : Pln (writeF st a n l) := by
  have key : ∀ (L : List ByteArray) (sb : Bool), (L ≠ [] ∧ ∀ V ∈ L, V.size = 64) → ∀ st' : DSt, st'.F = updF st.F a n (some (L, sb)) → (∀ x, st'.A x = if x = a then true else st.A x) → Pln st' := by
    intro L sb hL st' hF hA
    refine ⟨fun x y L' s' e => ?_, fun x y e => ?_, fun x => ?_, fun x hx => ?_⟩
    · rw [hF] at e
      unfold updF at e
      split at e
      · cases e; exact hL
      · exact h.vers x y L' s' e
    · rw [hF] at e
      unfold updF at e
      split at e
      · rename_i hh; rw [hh.2]; exact hn
      · exact h.few x y e
    · rw [hA, hF]
      by_cases hx : x = a
      · rw [if_pos hx]
        refine ⟨fun _ => ⟨n, ?_⟩, fun _ => rfl⟩
        unfold updF; rw [if_pos ⟨hx, rfl⟩]; rfl
      · rw [if_neg hx, h.pres]
        have e : ∀ y, updF st.F a n (some (L, sb)) x y = st.F x y := fun y => by unfold updF; rw [if_neg (fun hh => hx hh.1)]
        simp only [e]
    · rw [hA] at hx
      by_cases hxa : x = a
      · rw [hxa]; exact ha
      · rw [if_neg hxa] at hx; exact h.wfa x hx
  cases hF : st.F a n with
  | some s =>
    obtain ⟨L, sb⟩ := s
    have e : writeF st a n l = stepF (putS st a n (L ++ [wholeI l], sb)) := by unfold writeF; rw [hF]
    rw [e]
    obtain ⟨h1, h2⟩ := h.vers a n L sb hF
    refine key (L ++ [wholeI l]) sb ⟨by simp, fun V hV => ?_⟩ _ rfl (fun x => ?_)
    · rcases List.mem_append.1 hV with hV | hV
      · exact h2 V hV
      · rw [List.mem_singleton] at hV; rw [hV]; exact wholeI_size hl
    · show st.A x = _
      split
      · rename_i hx
        rw [hx]
        exact (h.pres a).2 ⟨n, by rw [hF]; rfl⟩
      · rfl
  | none =>
    have e : writeF st a n l = stepF (putS (if st.A a = true then { st with room := st.room - 1 } else openA { st with room := st.room - 1 } a) a n ([wholeI l], false)) := by unfold writeF; rw [hF]
    rw [e]
    refine key [wholeI l] false ⟨by simp, fun V hV => ?_⟩ _ ?_ (fun x => ?_)
    · rw [List.mem_singleton] at hV; rw [hV]; exact wholeI_size hl
    · show updF (if st.A a = true then { st with room := st.room - 1 } else openA { st with room := st.room - 1 } a).F a n _ = _
      split <;> rfl
    · show (if st.A a = true then { st with room := st.room - 1 } else openA { st with room := st.room - 1 } a).A x = _
      split
      · rename_i hA
        show st.A x = _
        split
        · rename_i hx; rw [hx]; exact hA
        · rfl
      · show updA st.A a true x = _
        unfold updA
        rfl
theorem Pln.sync {st : DSt} {a : Int} (h : Pln st) : Pln (syncF st a) := by
  have hF : ∀ x y, (syncF st a).F x y = st.F x y ∨ ∃ s, st.F x y = some s ∧ (syncF st a).F x y = some (lastS s) := fun x y => by
    show (if x = a ∧ false = false ∧ (Lit.int .i64 y).wf = true then ((stepF st).F a y).map lastS else (stepF st).F x y) = _ ∨ ∃ s, _ ∧ (if x = a ∧ false = false ∧ (Lit.int .i64 y).wf = true then ((stepF st).F a y).map lastS else (stepF st).F x y) = _
    split
    · rename_i hh
      rw [hh.1]
      show (st.F a y).map lastS = st.F a y ∨ ∃ s, st.F a y = some s ∧ (st.F a y).map lastS = some (lastS s)
      cases hq : st.F a y with
      | none => exact .inl rfl
      | some s => exact .inr ⟨s, rfl, rfl⟩
    · exact .inl rfl
  have hS : ∀ x y, ((syncF st a).F x y).isSome = (st.F x y).isSome := fun x y => by
    rcases hF x y with e | ⟨s, e1, e2⟩
    · rw [e]
    · rw [e1, e2]; rfl
  refine ⟨fun x y L s e => ?_, fun x y e => h.few x y (by rw [← hS]; exact e), fun x => ?_, h.wfa⟩
  · rcases hF x y with e1 | ⟨s', e1, e2⟩
    · rw [e1] at e; exact h.vers x y L s e
    · rw [e2] at e
      unfold lastS at e
      simp only [Option.some.injEq, Prod.mk.injEq] at e
      obtain ⟨rfl, _⟩ := e
      obtain ⟨L', sb⟩ := s'
      obtain ⟨h1, h2⟩ := h.vers x y L' sb e1
      refine ⟨by simp, fun V hV => ?_⟩
      rw [List.mem_singleton] at hV
      rw [hV]
      refine h2 _ ?_
      show L'.getLastD _ ∈ L'
      rw [List.getLastD_eq_getLast?, List.getLast?_eq_some_getLast h1]
      exact List.getLast_mem h1
  · show st.A x = true ↔ _
    rw [h.pres]
    simp only [hS]
theorem free_A (st : DSt) (a x : Int) : (freeF st a).A x = if x = a then false else st.A x := rfl
theorem free_F (st : DSt) (a x y : Int) : (freeF st a).F x y = if x = a then none else st.F x y := by
  show (if x = a then (fun _ => none) else st.F x) y = _
  split <;> rfl
theorem Pln.free {st : DSt} {a : Int} (h : Pln st) : Pln (freeF st a) := by
  refine ⟨fun x y L s e => ?_, fun x y e => ?_, fun x => ?_, fun x hx => ?_⟩
  · rw [free_F] at e
    split at e
    · cases e
    · exact h.vers x y L s e
  · rw [free_F] at e
    split at e
    · cases e
    · exact h.few x y e
  · rw [free_A]
    simp only [free_F]
    by_cases hx : x = a
    · simp [hx]
    · simp only [if_neg hx]; exact h.pres x
  · rw [free_A] at hx
    split at hx
    · cases hx
    · exact h.wfa x hx
theorem tick_same (st : DSt) : (tickF st).F = st.F ∧ (tickF st).A = st.A ∧ (tickF st).C = st.C := by
  unfold tickF
  split
  · exact ⟨rfl, rfl, rfl⟩
  · exact ⟨rfl, rfl, rfl⟩
theorem Pln.does {st : DSt} {k a n : Int} {l : List Int} (h : Pln st) (ha : 0 ≤ a ∧ a < 18446744073709551616) : Pln (doS st k a n l) := by
  unfold doS
  split
  · split
    · exact h
    · rename_i hb
      unfold BadW at hb
      exact h.write ha ⟨by omega, by omega⟩ (by omega)
  split
  · split
    · exact h.same (tick_same st).1 (tick_same st).2.1
    · exact h.sync
  split
  · split
    · exact h.same (tick_same st).1 (tick_same st).2.1
    · exact h.free
  split
  · unfold armF
    split
    · exact h
    · exact h.same rfl rfl
  · exact h
theorem Pln.crash {O : Nat → Prop} {p : Nat} {st : DSt} {w : World} (h : Pln st) (hD : DiskIs O w p st) (hC : st.C ≤ 4398046511104) (hN : ∀ a, st.N a ≤ 4398046511104) (ps : List Int) : Pln (crashF st (areasL st) (secsL st) ps).2 := by
  obtain ⟨q1, q2, _⟩ := crash_F hD hC hN (fun a ha => wf_u64 (h.wfa a ha).1 (h.wfa a ha).2) (fun a n hn => wf_i64 (h.few a n hn).1 (by have := (h.few a n hn).2; omega)) ps
  have key : ∀ a n s', (crashF st (areasL st) (secsL st) ps).2.F a n = some s' → ∃ L s V, st.F a n = some (L, s) ∧ V ∈ L ∧ s' = ([V], true) := by
    intro a n s' e
    obtain ⟨h1, h2⟩ := q1 a n
    cases hF : st.F a n with
    | none => rw [h1 hF] at e; cases e
    | some s =>
      obtain ⟨L, sb⟩ := s
      rcases (h2 L sb hF).1 with ⟨e2, _⟩ | ⟨V, hV, e2⟩
      · rw [e2] at e; cases e
      · rw [e2] at e
        cases e
        exact ⟨L, sb, V, rfl, hV, rfl⟩
  refine ⟨fun a n L s e => ?_, fun a n e => ?_, q2, fun a ha => ?_⟩
  · obtain ⟨L', s', V, e1, hV, e2⟩ := key a n _ e
    cases e2
    refine ⟨by simp, fun W hW => ?_⟩
    rw [List.mem_singleton] at hW
    rw [hW]
    exact (h.vers a n L' s' e1).2 V hV
  · obtain ⟨s', hs'⟩ := Option.isSome_iff_exists.1 e
    obtain ⟨L', s'', V, e1, _, _⟩ := key a n _ hs'
    exact h.few a n (by rw [e1]; rfl)
  · obtain ⟨n, hn⟩ := (q2 a).1 ha
    obtain ⟨s', hs'⟩ := Option.isSome_iff_exists.1 hn
    obtain ⟨L', s'', V, e1, _, _⟩ := key a n _ hs'
    exact h.wfa a ((h.pres a).2 ⟨n, by rw [e1]; rfl⟩)
end Go.Proofs.YtcpkpljeimbdiaaGreat.W
namespace Go.Proofs.YtcpkpljeimbdiaaGreat.W
open Go.RowKit
open Aid K
set_option linter.unusedSimpArgs false
set_option linter.unusedVariables false
theorem areas_few {O : Nat → Prop} {p : Nat} {st : DSt} {w : World} (h : DiskIs O w p st) (hc : st.C ≤ 4398046511104) : (areasL st).length ≤ st.C := by
  obtain ⟨e, w', fr, ⟨v, xs, _, hx, _⟩, _⟩ := areas_any O p st w h hc []
  rw [← areasL_eq hx.1]
  unfold QI.srt
  rw [List.length_mergeSort]
  exact hx.2
theorem secs_few {O : Nat → Prop} {p : Nat} {st : DSt} {w : World} (h : DiskIs O w p st) (a : Int) (hN : st.N a ≤ 4398046511104) : (secsL st a).length ≤ st.N a := by
  obtain ⟨m, G, hD⟩ := h
  have key : ∃ xs, SecsOf st a xs ∧ xs.length ≤ st.N a := by
    cases hG : G a with
    | none =>
      obtain ⟨h1, _⟩ := hD.empty a hG
      exact ⟨[], ⟨List.nodup_nil, (fun x hx => by cases hx), fun x _ => ⟨(fun hx => by cases hx), fun hx => by rw [h1 x] at hx; cases hx⟩⟩, Nat.zero_le _⟩
    | some g =>
      obtain ⟨_, _, S, hS, hf⟩ := hD.inner a g hG
      have hb : Below w.heap.size w (w.alloc (.cells #[.map (some g)] 62)) := (Below.refl _ _).alloc (Nat.le_refl _) _
      have hc : (w.alloc (.cells #[.map (some g)] 62)).cell? ⟨w.heap.size, 0, none⟩ = some (.map (some g)) := cell_new _ _ _ _ rfl
      obtain ⟨e, w', fr, ⟨v, xs, _, ⟨⟨k1, k2, k3⟩, hl⟩, _⟩, _⟩ := QI.sorted_any w.heap.size g (st.N a) S _ hN (by simp) hc (hS.kept (hb.block g hS.lt)) []
      refine ⟨xs, ⟨k1, k2, fun x hx => ?_⟩, hl⟩
      rw [k3 x hx]
      cases hF : st.F a x with
      | none => rw [(hf x).1 hF]; simp
      | some s => obtain ⟨v', e1, _⟩ := (hf x).2 s hF; rw [e1]; simp
  obtain ⟨xs, hx, hl⟩ := key
  rw [← secsL_eq hx]
  unfold QI.srt
  rw [List.length_mergeSort]
  exact hl
theorem crIn_cm (Fa : Int → Option Sec) (c : Cr) (n : Int) : (crIn Fa c n).cnt + (crIn Fa c n).miss ≤ c.cnt + c.miss + 1 := by
  unfold crIn
  split
  · omega
  · split
    · show c.cnt + 1 + c.miss ≤ _; omega
    · show c.cnt + (c.miss + 1) ≤ _; omega
theorem crFold_cm (Fa : Int → Option Sec) : ∀ (Ns : List Int) (c : Cr), (Ns.foldl (crIn Fa) c).cnt + (Ns.foldl (crIn Fa) c).miss ≤ c.cnt + c.miss + Ns.length
  | [], c => Nat.le_refl _
  | n :: Ns, c => by
    rw [List.foldl_cons]
    have h1 := crIn_cm Fa c n
    have h2 := crFold_cm Fa Ns (crIn Fa c n)
    simp only [List.length_cons]
    omega
theorem sum_one (N : Int → Nat) (a : Int) (c : Nat) : ∀ (la : List Int), la.Nodup → (la.map (fun b => if b = a then c else N b)).sum ≤ (la.map N).sum + c
  | [], _ => Nat.zero_le _
  | b :: la, hnd => by
    simp only [List.map_cons, List.sum_cons]
    have hb : b ∉ la := (List.nodup_cons.1 hnd).1
    by_cases h : b = a
    · subst h
      rw [if_pos rfl]
      have e : la.map (fun x => if x = b then c else N x) = la.map N := List.map_congr_left fun x hx => if_neg (show x ≠ b from fun e => hb (e ▸ hx))
      rw [e]
      omega
    · rw [if_neg h]
      have := sum_one N a c la (List.nodup_cons.1 hnd).2
      omega
theorem crOutN (st : DSt) (Ns : Int → List Int) (hNs : ∀ a, (Ns a).length ≤ st.N a) : ∀ (As : List Int) (x : List Int × DSt), As.Nodup → (∀ a ∈ As, x.2.N a = 0) → 0 ≤ x.2.room →
    0 ≤ (As.foldl (crOut st Ns) x).2.room ∧ (∀ a, a ∉ As → (As.foldl (crOut st Ns) x).2.N a = x.2.N a) ∧ (∀ a ∈ As, (As.foldl (crOut st Ns) x).2.N a ≤ st.N a) ∧
    ∀ la : List Int, la.Nodup → (As.foldl (crOut st Ns) x).2.room + ((la.map (As.foldl (crOut st Ns) x).2.N).sum : Nat) ≤ x.2.room + ((la.map x.2.N).sum : Nat) + ((As.map st.N).sum : Nat)
  | [], x, _, _, h0 => ⟨h0, fun _ _ => rfl, (fun a ha => by cases ha), fun la _ => by simp⟩
  | a :: As, x, hnd, hN, h0 => by
    have ha : a ∉ As := (List.nodup_cons.1 hnd).1
    have hcm := crFold_cm (st.F a) (Ns a) ⟨x.1, fun _ => none, 0, 0⟩
    obtain ⟨c, hc⟩ : ∃ c, (Ns a).foldl (crIn (st.F a)) ⟨x.1, fun _ => none, 0, 0⟩ = c := ⟨_, rfl⟩
    rw [hc] at hcm
    simp only [Nat.zero_add, Nat.add_zero] at hcm
    have hy : crOut st Ns x a = (c.picks, if c.cnt = 0 then roomF x.2 c.miss else layA (roomF x.2 c.miss) a c.F c.cnt) := by unfold crOut crIns; simp only [hc]
    obtain ⟨y, hye⟩ : ∃ y, crOut st Ns x a = y := ⟨_, rfl⟩
    have hNa := hNs a
    have hyN : ∀ b, y.2.N b = if b = a then c.cnt else x.2.N b := by
      intro b
      rw [← hye, hy]
      simp only
      split
      · rename_i hz
        by_cases hb : b = a
        · rw [if_pos hb, hb, hz]; exact hN a (by simp)
        · rw [if_neg hb]; rfl
      · show updN x.2.N a c.cnt b = _
        unfold updN; rfl
    have hyR : y.2.room = x.2.room + c.miss := by
      rw [← hye, hy]
      simp only
      split <;> rfl
    rw [List.foldl_cons, hye]
    obtain ⟨q1, q2, q3, q4⟩ := crOutN st Ns hNs As y (List.nodup_cons.1 hnd).2 (fun b hb => by
      have hne : b ≠ a := fun e => ha (e ▸ hb)
      rw [hyN, if_neg hne]; exact hN b (by simp [hb])) (by omega)
    refine ⟨q1, fun b hb => ?_, fun b hb => ?_, fun la hla => ?_⟩
    · rw [q2 b (fun h => hb (by simp [h])), hyN, if_neg (show b ≠ a from fun e => hb (by simp [e]))]
    · rcases List.mem_cons.1 hb with rfl | hb
      · rw [q2 b ha, hyN, if_pos rfl]; omega
      · exact q3 b hb
    · have h1 := q4 la hla
      have h2 := sum_one x.2.N a c.cnt la hla
      have e : la.map y.2.N = la.map (fun b => if b = a then c.cnt else x.2.N b) := List.map_congr_left fun b _ => hyN b
      rw [e] at h1
      simp only [List.map_cons, List.sum_cons]
      omega
theorem crash_fit {O : Nat → Prop} {p : Nat} {st : DSt} {w : World} {R : Int} {i : Nat} (hD : DiskIs O w p st) (hP : Pln st) (hF : FitS st R i) (hi : i ≤ 4398046511104) (ps : List Int) : FitS (crashF st (areasL st) (secsL st) ps).2 R (i + 1) ∧ (crashF st (areasL st) (secsL st) ps).2.C ≤ st.C := by
  have hC : st.C ≤ 4398046511104 := Nat.le_trans hF.C hi
  have hN : ∀ a, st.N a ≤ 4398046511104 := fun a => Nat.le_trans (hF.N a) hi
  obtain ⟨q1, q2, q3, q4, q5, q6⟩ := crash_F hD hC hN (fun a ha => wf_u64 (hP.wfa a ha).1 (hP.wfa a ha).2) (fun a n hn => wf_i64 (hP.few a n hn).1 (by have := (hP.few a n hn).2; omega)) ps
  obtain ⟨xs, hxs⟩ := areas_ex hD hC
  have hAn : (areasL st).Nodup := by rw [← areasL_eq hxs]; exact srt_nodup hxs.1
  have hfew := areas_few hD hC
  obtain ⟨z1, z2, z3, z4⟩ := crOutN st (secsL st) (fun a => secs_few hD a (hN a)) (areasL st) (ps, newSt st.room) hAn (fun _ _ => rfl) (by show 0 ≤ max st.room 0; omega)
  have hR := hF.sum (areasL st) hAn
  have h0 := hF.room
  refine ⟨⟨by rw [q6]; omega, by rw [q5]; decide, fun a => ?_, ?_, fun a n L s e => ?_, z1, fun la hla => ?_⟩, Nat.le_trans q3 hfew⟩
  · unfold crashF
    by_cases ha : a ∈ areasL st
    · have := z3 a ha; have := hF.N a; omega
    · rw [z2 a ha]; exact Nat.zero_le _
  · have := hF.C; omega
  · have hV := q1 a n
    cases hf : st.F a n with
    | none => rw [hV.1 hf] at e; cases e
    | some s0 =>
      obtain ⟨L0, sb⟩ := s0
      rcases (hV.2 L0 sb hf).1 with ⟨e2, _⟩ | ⟨V, _, e2⟩
      · rw [e2] at e; cases e
      · rw [e2] at e; cases e
        simp
  · have h1 := z4 la hla
    have e : (la.map (newSt st.room).N).sum = 0 := by
      show (la.map (fun _ => 0)).sum = 0
      clear h1 hla z1 z2 z3 z4
      induction la with
      | nil => rfl
      | cons a t ih => simp only [List.map_cons, List.sum_cons, ih]
    simp only at h1
    rw [e] at h1
    have e2 : (newSt st.room).room = max st.room 0 := rfl
    rw [e2] at h1
    unfold crashF
    omega
end Go.Proofs.YtcpkpljeimbdiaaGreat.W
namespace Go.Proofs.YtcpkpljeimbdiaaGreat.W
open Go.RowKit
open Aid K
set_option linter.unusedSimpArgs false
set_option linter.unusedVariables false
theorem sync_F (st : DSt) (a x y : Int) : (syncF st a).F x y = if x = a ∧ (Lit.int .i64 y).wf = true then (st.F a y).map lastS else st.F x y := by
  show (if x = a ∧ false = false ∧ (Lit.int .i64 y).wf = true then ((stepF st).F a y).map lastS else (stepF st).F x y) = _
  by_cases h : x = a ∧ (Lit.int .i64 y).wf = true
  · rw [if_pos h, if_pos ⟨h.1, rfl, h.2⟩]; rfl
  · rw [if_neg h, if_neg (fun hh => h ⟨hh.1, hh.2.2⟩)]; rfl
theorem setF_is : ∀ (N gone : List Int) (st st1 : DSt), N.Nodup → setF N gone st = (st1, 0) → (st.dead = false → st1.dead = false) ∧ st1.C ≤ st.C ∧
    (∀ a, (∀ n ∈ N, a ≠ 4 * n + 1) → (∀ m, st1.F a m = st.F a m) ∧ st1.A a = st.A a) ∧
    (∀ n ∈ N, n ∈ gone → (∀ m, st1.F (4 * n + 1) m = none) ∧ st1.A (4 * n + 1) = false) ∧
    (∀ n ∈ N, n ∉ gone → (∀ m, (Lit.int .i64 m).wf = true → st1.F (4 * n + 1) m = (st.F (4 * n + 1) m).map lastS) ∧ st1.A (4 * n + 1) = st.A (4 * n + 1))
  | [], gone, st, st1, _, h => by
    simp only [setF, Prod.mk.injEq] at h
    obtain ⟨rfl, _⟩ := h
    exact ⟨fun h => h, Nat.le_refl _, fun a _ => ⟨fun _ => rfl, rfl⟩, (fun n hn => by cases hn), (fun n hn => by cases hn)⟩
  | n :: N, gone, st, st1, hnd, h => by
    have hn : n ∉ N := (List.nodup_cons.1 hnd).1
    rw [setF] at h
    try simp only at h
    obtain ⟨k, hk⟩ : ∃ k : Int, (if hasB gone n = true then 2 else 1) = k := ⟨_, rfl⟩
    rw [hk] at h
    split at h
    · rename_i he
      simp only [Prod.mk.injEq] at h
      exact absurd h.2 he
    rename_i he
    have he0 : doE st k (4 * n + 1) 0 [] = 0 := Decidable.not_not.1 he
    obtain ⟨y, hy⟩ : ∃ y, doS st k (4 * n + 1) 0 [] = y := ⟨_, rfl⟩
    rw [hy] at h
    have hk12 : k = 1 ∨ k = 2 := by rw [← hk]; split <;> simp
    have ht : (tickF st).dead = false := by
      cases hh : (tickF st).dead with
      | false => rfl
      | true =>
        unfold doE at he0
        rw [if_neg (by omega), if_pos hk12, if_pos hh] at he0
        cases he0
    obtain ⟨hd1, hd2⟩ := tick_false ht
    have htn : ¬ (tickF st).dead = true := by rw [ht]; decide
    obtain ⟨q1, q2, q3, q4, q5⟩ := setF_is N gone y st1 (List.nodup_cons.1 hnd).2 h
    have hne : ∀ x, x ∈ N → (4 * n + 1 : Int) ≠ 4 * x + 1 := fun x hx e => hn (show n ∈ N from (show x = n by omega) ▸ hx)
    by_cases hg : n ∈ gone
    · have hk2 : k = 2 := by rw [← hk, if_pos (by unfold hasB; simpa using hg)]
      have hye : y = freeF st (4 * n + 1) := by rw [← hy, hk2]; unfold doS; rw [if_neg (by decide), if_neg (by decide), if_pos rfl, if_neg htn]
      have hyF : ∀ a m, y.F a m = if a = 4 * n + 1 then none else st.F a m := fun a m => by rw [hye]; exact free_F _ _ _ _
      have hyA : ∀ a, y.A a = if a = 4 * n + 1 then false else st.A a := fun a => by rw [hye]; exact free_A _ _ _
      have hyC : y.C ≤ st.C := by
        rw [hye]
        show (if (stepF st).A (4 * n + 1) = true then st.C - 1 else st.C) ≤ st.C
        split <;> omega
      refine ⟨fun _ => q1 (by rw [hye]; exact hd2), by omega, fun a ha => ?_, fun x hx hxg => ?_, fun x hx hxg => ?_⟩
      · obtain ⟨z1, z2⟩ := q3 a (fun x hx => ha x (by simp [hx]))
        have hna := ha n (by simp)
        exact ⟨fun m => by rw [z1, hyF, if_neg hna], by rw [z2, hyA, if_neg hna]⟩
      · rcases List.mem_cons.1 hx with rfl | hx
        · obtain ⟨z1, z2⟩ := q3 (4 * x + 1) (fun x' hx' => hne x' hx')
          exact ⟨fun m => by rw [z1, hyF, if_pos rfl], by rw [z2, hyA, if_pos rfl]⟩
        · exact q4 x hx hxg
      · rcases List.mem_cons.1 hx with rfl | hx
        · exact absurd hg hxg
        · obtain ⟨z1, z2⟩ := q5 x hx hxg
          have hxn : (4 * x + 1 : Int) ≠ 4 * n + 1 := fun e => hne x hx e.symm
          exact ⟨fun m hm => by rw [z1 m hm, hyF, if_neg hxn], by rw [z2, hyA, if_neg hxn]⟩
    · have hk1 : k = 1 := by rw [← hk, if_neg (by unfold hasB; simpa using hg)]
      have hye : y = syncF st (4 * n + 1) := by rw [← hy, hk1]; unfold doS; rw [if_neg (by decide), if_pos rfl, if_neg htn]
      have hyF : ∀ a m, y.F a m = if a = 4 * n + 1 ∧ (Lit.int .i64 m).wf = true then (st.F (4 * n + 1) m).map lastS else st.F a m := fun a m => by rw [hye]; exact sync_F _ _ _ _
      have hyA : ∀ a, y.A a = st.A a := fun a => by rw [hye]; rfl
      have hyC : y.C ≤ st.C := by rw [hye]; exact Nat.le_refl _
      refine ⟨fun _ => q1 (by rw [hye]; exact hd2), by omega, fun a ha => ?_, fun x hx hxg => ?_, fun x hx hxg => ?_⟩
      · obtain ⟨z1, z2⟩ := q3 a (fun x hx => ha x (by simp [hx]))
        have hna := ha n (by simp)
        exact ⟨fun m => by rw [z1, hyF, if_neg (fun hh => hna hh.1)], by rw [z2, hyA]⟩
      · rcases List.mem_cons.1 hx with rfl | hx
        · exact absurd hxg hg
        · exact q4 x hx hxg
      · rcases List.mem_cons.1 hx with rfl | hx
        · obtain ⟨z1, z2⟩ := q3 (4 * x + 1) (fun x' hx' => hne x' hx')
          exact ⟨fun m hm => by rw [z1, hyF, if_pos ⟨rfl, hm⟩], by rw [z2, hyA]⟩
        · obtain ⟨z1, z2⟩ := q5 x hx hxg
          have hxn : (4 * x + 1 : Int) ≠ 4 * n + 1 := fun e => hne x hx e.symm
          exact ⟨fun m hm => by rw [z1 m hm, hyF, if_neg (fun hh => hxn hh.1)], by rw [z2, hyA]⟩
theorem textF_ext {st st2 : DSt} {a : Int} (h : ∀ m : Nat, sectF st2 a m = sectF st a m) : ∀ (f k : Nat), textF st2 a f k = textF st a f k
  | 0, k => rfl
  | f + 1, k => by
    rw [textF, textF, h k]
    cases sectF st a k with
    | none => rfl
    | some s =>
      simp only
      rw [textF_ext h f (k + 1)]
theorem nums_lt {xs : List Int} (h : xs.Nodup) : (numsF (QU.srt xs)).Pairwise (fun a b => a < b) := by
  have h1 : (QU.srt xs).Pairwise (fun a b => a ≤ b) := by
    have := List.pairwise_mergeSort (le := fun a b : Int => decide (a ≤ b)) (fun a b c h1 h2 => by simp at *; omega) (fun a b => by simp; omega) xs
    exact this.imp (fun h => of_decide_eq_true h)
  have h2 : (QU.srt xs).Nodup := (List.mergeSort_perm xs _).nodup_iff.2 h
  have h3 : (QU.srt xs).Pairwise (fun a b => a < b) := (h1.and h2).imp fun {a b} hh => by have := hh.1; have := hh.2; omega
  unfold numsF
  rw [List.pairwise_map]
  refine (List.pairwise_filter.2 (h3.imp fun {a b} hab ha hb => ?_))
  have h4 : a % 4 = 1 := of_decide_eq_true ha
  have h5 : b % 4 = 1 := of_decide_eq_true hb
  omega
theorem lt_eq : ∀ {l m : List Int}, l.Pairwise (fun a b => a < b) → m.Pairwise (fun a b => a < b) → (∀ x, x ∈ l ↔ x ∈ m) → l = m := by
  intro l m hl hm h
  have hp : l.Perm m := (List.perm_ext_iff_of_nodup (hl.imp fun {a b} hab => by omega) (hm.imp fun {a b} hab => by omega)).2 h
  exact List.Perm.eq_of_pairwise (le := fun a b : Int => a < b) (fun a b _ _ h1 h2 => by omega) hl hm hp
theorem nextF_is : ∀ (l : List Int) (n : Int), nextF n l = match (numsF l).getLast? with | none => n | some y => y + 1
  | [], n => rfl
  | a :: l, n => by
    have e : nextF n (a :: l) = nextF (if a % 4 = 1 then a / 4 + 1 else n) l := rfl
    rw [e, nextF_is l]
    by_cases h : a % 4 = 1
    · have e2 : numsF (a :: l) = a / 4 :: numsF l := by unfold numsF; simp [h]
      rw [e2, if_pos h]
      cases hq : numsF l with
      | nil => rfl
      | cons b t => rw [List.getLast?_cons_cons]; rfl
    · have e2 : numsF (a :: l) = numsF l := by unfold numsF; simp [h]
      rw [e2, if_neg h]
end Go.Proofs.YtcpkpljeimbdiaaGreat.W
namespace Go.Proofs.YtcpkpljeimbdiaaGreat.W
open Go.RowKit
open Aid K
set_option linter.unusedSimpArgs false
set_option linter.unusedVariables false
theorem nums_mem {xs : List Int} {y : Int} : y ∈ numsF (QU.srt xs) ↔ 4 * y + 1 ∈ xs := by
  unfold numsF
  rw [List.mem_map]
  constructor
  · rintro ⟨z, hz, rfl⟩
    obtain ⟨h1, h2⟩ := List.mem_filter.1 hz
    have h3 : z % 4 = 1 := of_decide_eq_true h2
    have h4 := (List.mergeSort_perm xs _).mem_iff.1 h1
    rw [show 4 * (z / 4) + 1 = z by omega]
    exact h4
  · intro h
    refine ⟨4 * y + 1, List.mem_filter.2 ⟨(List.mergeSort_perm xs _).mem_iff.2 h, ?_⟩, by omega⟩
    exact decide_eq_true (by omega)
theorem opF_some {st st1 : DSt} {xs : List Int} {fr first c : Int} {s : LSt} (h : opF st xs fr first = (some s, st1, c)) :
    st.dead = false ∧ first ≤ 4611686018427387904 ∧ max (nextF 0 (QU.srt xs)) fr ≤ 1152921504606846976 ∧ ∃ gone, opL st fr (numsF (QU.srt xs)) ⟨none, first, [], [], max (nextF 0 (QU.srt xs)) fr, 0⟩ [] = some (s, gone) ∧ setF (numsF (QU.srt xs)) gone st = (st1, 0) ∧ c = 0 := by
  unfold opF at h
  split at h
  · cases h
  rename_i hd
  split at h
  · cases h
  rename_i hf
  simp only at h
  split at h
  · cases h
  rename_i hm
  cases ho : opL st fr (numsF (QU.srt xs)) ⟨none, first, [], [], max (nextF 0 (QU.srt xs)) fr, 0⟩ [] with
  | none => rw [ho] at h; cases h
  | some r =>
    obtain ⟨s', gone⟩ := r
    rw [ho] at h
    simp only at h
    split at h
    · cases h
    rename_i he
    simp only [Prod.mk.injEq, Option.some.injEq] at h
    obtain ⟨rfl, rfl, rfl⟩ := h
    refine ⟨by simpa using hd, by omega, by omega, gone, rfl, ?_, rfl⟩
    have := Decidable.not_not.1 he
    rw [← this]
end Go.Proofs.YtcpkpljeimbdiaaGreat.W
namespace Go.Proofs.YtcpkpljeimbdiaaGreat.W
open Go.RowKit
open Aid K
set_option linter.unusedSimpArgs false
set_option linter.unusedVariables false
def OpD (w0 : World) (p : Nat) (r : Option LSt × DSt × Int) (e : Ending) (w' : World) : Prop :=
  match r.1 with
  | none => e = .returned (.tuple #[.pointer none, .int .i64 r.2.2]) ∧ DL w0 w' p r.2.1
  | some s => ∃ g, e = .returned (.tuple #[.pointer (some ⟨g, 0, none⟩), .int .i64 r.2.2]) ∧ ALs w0 w' w'.heap.size g p s r.2.1
theorem dl_openg {w0 W : World} {p : Nat} {st : DSt} {R : Int} {i : Nat} {fr first : Int} (h : DL w0 W p st) (hS : Sects st) (hF : FitS st R i) (hi : i + 1048600 ≤ 4398046511103) (hC : st.C ≤ 1048600) (hR : R ≤ 9223372036854775807) (hd : st.dead = false)
    (hfr : 0 ≤ fr ∧ fr < 18446744073709551616) (hfi : 0 ≤ first ∧ first ≤ 4611686018427387904) :
    Calls Tryz.prog 8 #[.pointer (some ⟨p, 0, none⟩), .int .u64 fr, .int .u64 first] W fun e w' => ∃ xs, AreasOf st xs ∧ OpD w0 p (opF st xs fr first) e w' := by
  obtain ⟨O, h1, h2, h3⟩ := h
  refine (open_gen O p st R i fr first W h1 (fun k hk => (h2 k hk).2) hS hF hi hC hR hfr ⟨hfi.1, by omega⟩).mono ?_
  rintro e w' ⟨xs, hxs, hE⟩
  refine ⟨xs, hxs hd hfi.2, ?_⟩
  obtain ⟨r, hr⟩ : ∃ r, opF st xs fr first = r := ⟨_, rfl⟩
  rw [hr] at hE ⊢
  obtain ⟨ro, rs, rc⟩ := r
  obtain ⟨hK, O', hD, hg, hl, hm⟩ := hE
  have hs := h3.size
  have hO' : ∀ k, O' k → w0.heap.size ≤ k ∧ k < w'.heap.size := fun k hk => by
    refine ⟨?_, hl k hk⟩
    rcases hg k hk with h4 | h4
    · exact (h2 k h4).1
    · omega
  have hB := hK.below h3 h3.size (fun x hx => (h2 x hx).1)
  unfold OpD
  cases ro with
  | none => exact ⟨hm, O', hD, hO', hB⟩
  | some s =>
    obtain ⟨g, Q, he, hW, hQ⟩ := hm
    refine ⟨g, he, O', Q, hW, hD, fun k hk => ?_, Nat.le_refl _, hB⟩
    rcases hk with hk | hk
    · exact hO' k hk
    · obtain ⟨_, _, _, hw⟩ := hW
      have := hQ k hk
      exact ⟨by omega, hw.lt k hk⟩
def DEnd (w0 : World) (p : Nat) (r : Int) (st' : DSt) (e : Ending) (W' : World) : Prop := e = .returned (.int .i64 r) ∧ DL w0 W' p st'
theorem DoEnd.dl {w0 W : World} {O : Nat → Prop} {p : Nat} {st' : DSt} {r : Int} {e : Ending} {w' : World} (hO : ∀ k, O k → w0.heap.size ≤ k ∧ k < W.heap.size) (hB : Below w0.heap.size w0 W) (h : DoEnd O p r st' W e w') : DEnd w0 p r st' e w' := by
  obtain ⟨he, hK, O', hD, hg⟩ := h
  have hs := hK.size
  have hs0 := hB.size
  refine ⟨he, O', hD, fun k hk => ?_, hK.below hB hB.size (fun x hx => (hO x hx).1)⟩
  rcases hg k hk with h1 | h1
  · have := hO k h1; omega
  · omega
theorem dl_crash {w0 W : World} {p : Nat} {st : DSt} {R : Int} {i : Nat} {vp : Value} {ps : List Int} (h : DL w0 W p st) (hF : FitS st R i) (hi : i ≤ 4398046510000) (hR : R ≤ 9223372036854775807) (hI : Ints W .i64 vp ps) (hcap : CapV vp) (hps : ∀ y ∈ ps, (Lit.int .i64 y).wf = true) :
    Calls Tryz.prog 7 #[.pointer (some ⟨p, 0, none⟩), vp] W fun e w' => ∃ pc, e = .returned (.pointer (some ⟨pc, 0, none⟩)) ∧ DL W w' pc (crashF st (areasL st) (secsL st) ps).2 ∧ Below W.heap.size W w' := by
  obtain ⟨O, h1, h2, h3⟩ := h
  refine (crash_any O p st vp ps W h1 hI hcap hps (fun k hk => (h2 k hk).2) (by have := hF.C; omega) (fun a => by have := hF.N a; omega) (fun a n Lv sb e => by have := hF.V a n Lv sb e; omega) hF.room (fun la hla => by have := hF.sum la hla; omega)).mono ?_
  rintro e w' ⟨pc, Oc, rfl, hD, hO, hB⟩
  exact ⟨pc, rfl, ⟨Oc, hD, hO, hB⟩, hB⟩
theorem step_calm {st : DSt} (hl : st.left = -1) : (stepF st).dead = false ∧ (stepF st).left = -1 := by unfold stepF; simp [hl]
theorem does_calm {st : DSt} {k a n : Int} {l : List Int} (hk : k = 0 ∨ k = 1 ∨ k = 2) (hd : st.dead = false) (hl : st.left = -1) : (doS st k a n l).dead = false ∧ (doS st k a n l).left = -1 := by
  obtain ⟨s1, s2⟩ := step_calm hl
  have ht : tickF st = stepF st := by unfold tickF; rw [if_neg (by rw [hd]; decide)]
  rcases hk with rfl | rfl | rfl
  · by_cases hb : BadW st a n l
    · have e1 : doS st 0 a n l = st := by unfold doS; rw [if_pos rfl, if_pos hb]
      rw [e1]; exact ⟨hd, hl⟩
    · have e1 : doS st 0 a n l = writeF st a n l := by unfold doS; rw [if_pos rfl, if_neg hb]
      rw [e1]
      unfold writeF
      split
      · unfold stepF putS; simp [hl]
      · split <;> (unfold stepF putS; simp [hl, openA])
  · have e1 : doS st 1 a n l = syncF st a := by unfold doS; rw [if_neg (by decide), if_pos rfl, if_neg (by rw [ht, s1]; decide)]
    rw [e1]
    exact ⟨s1, s2⟩
  · have e1 : doS st 2 a n l = freeF st a := by unfold doS; rw [if_neg (by decide), if_neg (by decide), if_pos rfl, if_neg (by rw [ht, s1]; decide)]
    rw [e1]
    exact ⟨s1, s2⟩
theorem setF_calm2 : ∀ (N gone : List Int) (st : DSt), st.dead = false → st.left = -1 → (setF N gone st).2 = 0 ∧ (setF N gone st).1.dead = false ∧ (setF N gone st).1.left = -1
  | [], gone, st, hd, hl => ⟨rfl, hd, hl⟩
  | n :: N, gone, st, hd, hl => by
    obtain ⟨k, hk⟩ : ∃ k : Int, (if hasB gone n = true then 2 else 1) = k := ⟨_, rfl⟩
    have hk12 : k = 1 ∨ k = 2 := by rw [← hk]; split <;> simp
    have hdo := does_calm (a := 4 * n + 1) (n := 0) (l := []) (.inr hk12) hd hl
    have ht : (tickF st).dead = false := by unfold tickF; rw [if_neg (by rw [hd]; decide)]; exact (step_calm hl).1
    have he : doE st k (4 * n + 1) 0 [] = 0 := by unfold doE; rw [if_neg (by omega), if_pos hk12, if_neg (by rw [ht]; decide)]
    rw [setF]
    simp only [hk]
    rw [if_neg (by rw [he]; simp)]
    exact setF_calm2 N gone _ hdo.1 hdo.2
theorem setF_same (R : Int) : ∀ (N gone : List Int) (st : DSt) (i : Nat), Pln st → FitS st R i → (∀ n ∈ N, 0 ≤ n ∧ 4 * n + 1 < 18446744073709551616) → Pln (setF N gone st).1 ∧ FitS (setF N gone st).1 R (i + N.length)
  | [], gone, st, i, hP, hF, _ => ⟨hP, hF⟩
  | n :: N, gone, st, i, hP, hF, hN => by
    obtain ⟨k, hk⟩ : ∃ k : Int, (if hasB gone n = true then 2 else 1) = k := ⟨_, rfl⟩
    have hn := hN n (by simp)
    have h1 : Pln (doS st k (4 * n + 1) 0 []) := hP.does ⟨by omega, hn.2⟩
    have h2 : FitS (doS st k (4 * n + 1) 0 []) R (i + 1) := fit_do hF (by decide)
    rw [setF]
    simp only [hk]
    split
    · exact ⟨h1, fit_mono h2 (by simp only [List.length_cons]; omega)⟩
    · have h3 := setF_same R N gone _ (i + 1) h1 h2 (fun x hx => hN x (by simp [hx]))
      refine ⟨h3.1, fit_mono h3.2 (by simp only [List.length_cons]; omega)⟩
theorem nums_range {xs : List Int} {st : DSt} (hP : Pln st) (hx : AreasOf st xs) : ∀ n ∈ numsF (QU.srt xs), 0 ≤ n ∧ 4 * n + 1 < 18446744073709551616 := fun n hn => by
  have h1 := nums_mem.1 hn
  have h2 := hP.wfa _ ((hx.2.2 _ (hx.2.1 _ h1)).1 h1)
  omega
theorem nums_few {xs : List Int} : (numsF (QU.srt xs)).length ≤ xs.length := by
  unfold numsF
  rw [List.length_map]
  refine Nat.le_trans (List.length_filter_le _ _) ?_
  exact Nat.le_of_eq (List.mergeSort_perm xs _).length_eq
end Go.Proofs.YtcpkpljeimbdiaaGreat.W
namespace Go.Proofs.YtcpkpljeimbdiaaGreat.W
open Go.RowKit
open Aid K
set_option linter.unusedSimpArgs false
set_option linter.unusedVariables false
theorem pow7 {i : Nat} (hi : i ≤ 9) : (2 : Nat) ^ (7 * (i + 1)) = 2 ^ (7 * i) * 128 := by rw [Nat.mul_add, Nat.pow_add]
theorem numF_put : ∀ (f n i acc : Nat) (t : List Int), n ≤ f → i ≤ 9 → n * 2 ^ (7 * i) < 18446744073709551616 → (i = 0 ∨ 0 < n) → numF i acc (putU n ++ t) = (acc + n * 2 ^ (7 * i), i + (putU n).length, 0)
  | f, n, i, acc, t, hf, hi, hn, h0 => by
    by_cases hb : 128 ≤ n
    · have hi9 : i ≤ 8 := by
        have hc : i = 0 ∨ i = 1 ∨ i = 2 ∨ i = 3 ∨ i = 4 ∨ i = 5 ∨ i = 6 ∨ i = 7 ∨ i = 8 ∨ i = 9 := by omega
        rcases hc with rfl | rfl | rfl | rfl | rfl | rfl | rfl | rfl | rfl | rfl <;> simp at hn ⊢
        omega
      obtain ⟨P, hP⟩ : ∃ P, (2 : Nat) ^ (7 * i) = P := ⟨_, rfl⟩
      have hp1 : (2 : Nat) ^ (7 * (i + 1)) = P * 128 := by rw [pow7 (by omega), hP]
      have hdm : n = 128 * (n / 128) + n % 128 := by omega
      have hmul : n * P = 128 * (n / 128 * P) + n % 128 * P := by
        have : n * P = (128 * (n / 128) + n % 128) * P := by rw [← hdm]
        rw [this, Nat.add_mul, Nat.mul_assoc]
      rw [hP] at hn ⊢
      have ih := numF_put (f - 1) (n / 128) (i + 1) (acc + n % 128 * P) t (by omega) (by omega) (by
        rw [hp1]
        have : n / 128 * (P * 128) = 128 * (n / 128 * P) := by rw [Nat.mul_comm P 128, ← Nat.mul_assoc, Nat.mul_comm (n / 128) 128, Nat.mul_assoc]
        omega) (.inr (by omega))
      rw [putU_big hb, List.cons_append, numF]
      rw [if_neg (by omega), if_pos (by omega)]
      have e1 : (((n % 128 + 128 : Nat) : Int).toNat % 128) = n % 128 := by omega
      rw [e1, hP, ih, hp1]
      have e2 : n / 128 * (P * 128) = 128 * (n / 128 * P) := by rw [Nat.mul_comm P 128, ← Nat.mul_assoc, Nat.mul_comm (n / 128) 128, Nat.mul_assoc]
      rw [e2, List.length_cons]
      refine Prod.ext ?_ (Prod.ext ?_ rfl)
      · simp only; omega
      · simp only; omega
    · rw [putU_small (by omega), List.cons_append, List.nil_append, numF]
      have h9 : ¬ (i = 9 ∧ (1 : Int) < (n : Int)) := by
        rintro ⟨rfl, h1⟩
        simp at hn
        omega
      rw [if_neg h9, if_neg (by omega), if_neg (by omega)]
      have e1 : ((n : Int).toNat % 128) = n := by omega
      rw [e1]
      rfl
  termination_by f n => n
  decreasing_by omega
theorem numF_cut : ∀ (n i acc m : Nat), m < (putU n).length → (numF i acc ((putU n).take m)).2.2 ≠ 0
  | n, i, acc, m, hm => by
    cases m with
    | zero => simp [numF]
    | succ m =>
      by_cases hb : 128 ≤ n
      · rw [putU_big hb] at hm ⊢
        rw [List.take_succ_cons, numF]
        split
        · simp
        · rw [if_pos (by omega)]
          exact numF_cut (n / 128) (i + 1) _ m (by simpa using hm)
      · rw [putU_small (by omega)] at hm
        simp at hm
  termination_by n => n
  decreasing_by omega
theorem uintF_put {most : Int} {n : Nat} {t : List Int} (hn : n < 18446744073709551616) (hm : (n : Int) ≤ most) : uintF most (putU n ++ t) 0 = ((n : Int), t, 0) := by
  have h := numF_put n n 0 0 t (Nat.le_refl _) (by omega) (by simpa using hn) (.inl rfl)
  unfold uintF
  rw [if_neg (by decide)]
  simp only [h]
  rw [if_neg (by decide)]
  simp only [Nat.mul_zero, Nat.pow_zero, Nat.mul_one, Nat.zero_add]
  rw [if_neg (by omega)]
  simp
theorem uintF_cut {most : Int} {n m : Nat} (hm : m < (putU n).length) : (uintF most ((putU n).take m) 0).2.2 ≠ 0 := by
  have h := numF_cut n 0 0 m hm
  unfold uintF
  rw [if_neg (by decide)]
  simp only
  rw [if_pos h]
  exact h
def putB (b : List Int) : List Int := putU b.length ++ b
theorem bytesF_put {b t : List Int} (hb : b.length ≤ 512) : bytesF 512 (putB b ++ t) 0 = (some b, t, 0) := by
  have h := uintF_put (most := 512) (n := b.length) (t := b ++ t) (by omega) (by omega)
  unfold bytesF putB
  rw [List.append_assoc]
  simp only [h]
  rw [if_neg (by decide), if_neg (by rw [List.length_append]; omega)]
  simp
theorem bytesF_cut {b : List Int} {m : Nat} (hb : b.length ≤ 512) (hm : m < (putB b).length) : (bytesF 512 ((putB b).take m) 0).1 = none := by
  unfold bytesF
  by_cases h : m < (putU b.length).length
  · have e : (putB b).take m = (putU b.length).take m := by unfold putB; rw [List.take_append_of_le_length (by omega)]
    rw [e]
    simp only
    rw [if_pos (uintF_cut h)]
  · have e : (putB b).take m = putU b.length ++ b.take (m - (putU b.length).length) := by unfold putB; rw [List.take_append, List.take_of_length_le (by omega)]
    rw [e]
    have hh := uintF_put (most := 512) (n := b.length) (t := b.take (m - (putU b.length).length)) (by omega) (by omega)
    simp only [hh]
    rw [if_neg (by decide)]
    unfold putB at hm
    rw [List.length_append] at hm
    rw [if_pos (by rw [List.length_take]; omega)]
def recT : List (List Int) → List Int
  | [] => []
  | b :: bs => putB b ++ recT bs
theorem recT_append : ∀ (x y : List (List Int)), recT (x ++ y) = recT x ++ recT y
  | [], y => rfl
  | b :: x, y => by rw [List.cons_append, recT, recT, recT_append x y, List.append_assoc]
theorem recT_one (b : List Int) : recT [b] = putB b := by simp [recT]
theorem putB_pos (b : List Int) : 0 < (putB b).length := by
  unfold putB
  have := putU_ne b.length
  rw [List.length_append]
  have : 0 < (putU b.length).length := List.length_pos_iff.2 this
  omega
def fullR : List (List Int) → Nat → Nat
  | [], _ => 0
  | b :: bs, m => if m < (putB b).length then 0 else fullR bs (m - (putB b).length) + 1
theorem recF_cut : ∀ (bs : List (List Int)) (f m : Nat) (s : LSt), (∀ b ∈ bs, b.length ≤ 512) → m < f → recF f ((recT bs).take m) s = { s with L := s.L ++ bs.take (fullR bs m) }
  | [], f + 1, m, s, _, _ => by
    have e : (bytesF 512 [] 0).1 = none := by decide +kernel
    simp only [recT, List.take_nil]
    rw [recF, e]
    simp [fullR]
  | b :: bs, f + 1, m, s, hb, hf => by
    have hb1 := hb b (by simp)
    by_cases h : m < (putB b).length
    · have e1 : (recT (b :: bs)).take m = (putB b).take m := by rw [recT, List.take_append_of_le_length (by omega)]
      rw [e1, recF, bytesF_cut hb1 h, fullR, if_pos h]
      simp
    · have e1 : (recT (b :: bs)).take m = putB b ++ (recT bs).take (m - (putB b).length) := by rw [recT, List.take_append, List.take_of_length_le (by omega)]
      have hp := putB_pos b
      rw [e1, recF, bytesF_put hb1]
      simp only
      rw [recF_cut bs f (m - (putB b).length) _ (fun x hx => hb x (by simp [hx])) (by omega), fullR, if_neg h]
      simp
def segT (ix : Nat) (bs : List (List Int)) : List Int := putU ix ++ recT bs
theorem recT_fuel (bs : List (List Int)) (m : Nat) : (recT bs).take m = (recT bs).take (min m (recT bs).length) := by
  by_cases h : m ≤ (recT bs).length
  · rw [Nat.min_eq_left h]
  · rw [Nat.min_eq_right (by omega), List.take_of_length_le (by omega), List.take_of_length_le (Nat.le_refl _)]
theorem fullR_all : ∀ (bs : List (List Int)) (m : Nat), fullR bs (min m (recT bs).length) = fullR bs m
  | [], _ => rfl
  | b :: bs, m => by
    rw [fullR, fullR, recT, List.length_append]
    by_cases h : m < (putB b).length
    · rw [if_pos (by omega), if_pos h]
    · rw [if_neg (by omega), if_neg h, ← fullR_all bs (m - (putB b).length)]
      congr 2
      omega
theorem rdS_cut {s : LSt} {nu : Int} {ix m : Nat} {bs : List (List Int)} (hix : ix ≤ 4611686018427387904) (hb : ∀ b ∈ bs, b.length ≤ 512) :
    rdS s nu ((segT ix bs).take m) = if m < (putU ix).length then (s, true, true) else match folF s nu ix with
      | none => (s, false, false)
      | some s' => ({ s' with L := s'.L ++ bs.take (fullR bs (m - (putU ix).length)) }, true, false) := by
  unfold rdS segT
  by_cases h : m < (putU ix).length
  · rw [if_pos h, List.take_append_of_le_length (by omega)]
    simp only
    rw [if_pos (uintF_cut h)]
  · rw [if_neg h, List.take_append, List.take_of_length_le (by omega)]
    have hu := uintF_put (most := 4611686018427387904) (n := ix) (t := (recT bs).take (m - (putU ix).length)) (by omega) (by omega)
    simp only [hu]
    rw [if_neg (by decide)]
    cases hf : folF s nu (ix : Int) with
    | none => rfl
    | some s' =>
      simp only
      rw [recT_fuel, recF_cut bs _ _ _ hb (by rw [List.length_append, List.length_take]; omega), fullR_all]
end Go.Proofs.YtcpkpljeimbdiaaGreat.W
namespace Go.Proofs.YtcpkpljeimbdiaaGreat.W
open Go.RowKit
open Aid K
set_option linter.unusedSimpArgs false
set_option linter.unusedVariables false
def secP (T : List Int) (m n : Nat) : List Int := (n : Int) :: (T.drop (63 * m)).take n
theorem secP_by {T : List Int} {m n : Nat} (hn : n ≤ 63) (h : By8 T) : By8 (secP T m n) := by
  intro x hx
  unfold secP at hx
  rcases List.mem_cons.1 hx with rfl | hx
  · omega
  · exact h x (List.mem_of_mem_drop (List.mem_of_mem_take hx))
theorem secP_pre {T b : List Int} {m n : Nat} (h : 63 * m + n ≤ T.length) : secP (T ++ b) m n = secP T m n := by
  unfold secP
  rw [List.drop_append_of_le_length (by omega), List.take_append_of_le_length (by rw [List.length_drop]; omega)]
theorem bytes_wholeI {l : List Int} (h : By8 l) : bytesI (wholeI l) = l ++ List.replicate (64 - l.length) 0 := by
  unfold bytesI wholeI whole
  simp only [List.map_append, List.length_map, List.map_replicate]
  congr 1
  rw [List.map_map]
  refine (List.map_congr_left (g := id) fun x hx => ?_).trans (List.map_id _)
  have h1 := h x hx
  simp only [Function.comp_apply, u8, id]
  rw [UInt8.toNat_ofNat']
  omega
theorem used_secP {T r : List Int} {m n : Nat} (hn : n ≤ 63) : usedF (secP T m n ++ r) = n := by
  unfold usedF secP
  simp
  omega
theorem drop_secP {T r : List Int} {m n : Nat} (h : 63 * m + n ≤ T.length) : ((secP T m n ++ r).drop 1).take n = (T.drop (63 * m)).take n := by
  unfold secP
  rw [List.cons_append, List.drop_succ_cons, List.drop_zero, List.take_append_of_le_length (by rw [List.length_take, List.length_drop]; omega), List.take_take, Nat.min_self]
def Sees (G : Nat → Option (List Int)) (T : List Int) (k : Nat) : Prop :=
  ∀ m, (G m = none ∧ k ≤ 63 * m) ∨ ∃ n r, G m = some (secP T m n ++ r) ∧ n ≤ 63 ∧ 63 * m + n ≤ T.length ∧ min 63 (k - 63 * m) ≤ n
theorem text_from {st : DSt} {a : Int} {T : List Int} {k : Nat} (h : Sees (sectF st a) T k) (hk : k ≤ T.length) : ∀ (f m : Nat), T.length ≤ 63 * (m + f) → 63 * m ≤ T.length →
    ∃ t, 63 * m ≤ t ∧ t ≤ T.length ∧ (63 * m ≤ k → k ≤ t) ∧ textF st a f m = (T.drop (63 * m)).take (t - 63 * m)
  | 0, m, hf, hm => ⟨T.length, hm, Nat.le_refl _, fun _ => hk, by rw [textF, List.drop_eq_nil_of_le (by omega)]; simp⟩
  | f + 1, m, hf, hm => by
    rw [textF]
    rcases h m with ⟨h1, h2⟩ | ⟨n, r, h1, h2, h3, h4⟩
    · rw [h1]
      exact ⟨63 * m, Nat.le_refl _, hm, fun _ => h2, by simp⟩
    · rw [h1]
      simp only
      rw [used_secP h2, drop_secP h3]
      by_cases hn : n < 63
      · rw [if_pos hn, List.append_nil]
        exact ⟨63 * m + n, by omega, h3, fun _ => by omega, by rw [show 63 * m + n - 63 * m = n by omega]⟩
      · have hn63 : n = 63 := by omega
        subst hn63
        rw [if_neg hn]
        obtain ⟨t, t1, t2, t3, t4⟩ := text_from h hk f (m + 1) (by omega) (by omega)
        refine ⟨t, by omega, t2, fun hh => ?_, ?_⟩
        · by_cases hk2 : 63 * (m + 1) ≤ k
          · exact t3 hk2
          · omega
        · rw [t4, show 63 * (m + 1) = 63 * m + 63 by omega, ← List.drop_drop]
          have : t - 63 * m = 63 + (t - (63 * m + 63)) := by omega
          rw [this, List.take_add]
theorem text_sees {st : DSt} {a : Int} {T : List Int} {k : Nat} (h : Sees (sectF st a) T k) (hk : k ≤ T.length) (hT : T.length ≤ 63 * 65537) : ∃ t, k ≤ t ∧ t ≤ T.length ∧ textF st a 65537 0 = T.take t := by
  obtain ⟨t, _, t2, t3, t4⟩ := text_from h hk 65537 0 (by omega) (by omega)
  exact ⟨t, t3 (by omega), t2, by simpa using t4⟩
structure Txt (F : Int → Option Sec) (T : List Int) (k : Nat) : Prop where
  vers : ∀ (m : Nat) L s, F m = some (L, s) → L ≠ [] ∧ ∀ V ∈ L, ∃ n, n ≤ 63 ∧ 63 * m + n ≤ T.length ∧ min 63 (k - 63 * m) ≤ n ∧ V = wholeI (secP T m n)
  syn : ∀ m : Nat, 63 * m < k → ∃ L, F m = some (L, true)
  le : k ≤ T.length
  by8 : By8 T
theorem Txt.void {F : Int → Option Sec} (h : ∀ m : Nat, F m = none) (T : List Int) (hT : By8 T) : Txt F T 0 :=
  ⟨(fun m L s e => by rw [h m] at e; cases e), (fun m hm => by omega), Nat.zero_le _, hT⟩
theorem Txt.grow {F : Int → Option Sec} {T b : List Int} {k : Nat} (h : Txt F T k) (hb : By8 b) : Txt F (T ++ b) k :=
  ⟨fun m L s e => by
    obtain ⟨h1, h2⟩ := h.vers m L s e
    refine ⟨h1, fun V hV => ?_⟩
    obtain ⟨n, n1, n2, n3, n4⟩ := h2 V hV
    exact ⟨n, n1, by rw [List.length_append]; omega, n3, by rw [secP_pre n2]; exact n4⟩, h.syn, by rw [List.length_append]; have := h.le; omega, fun x hx => (List.mem_append.1 hx).elim (h.by8 x) (hb x)⟩
theorem Txt.same {F F' : Int → Option Sec} {T : List Int} {k : Nat} (h : Txt F T k) (e : ∀ m : Nat, F' m = F m) : Txt F' T k :=
  ⟨fun m L s e1 => h.vers m L s (by rw [← e m]; exact e1), fun m hm => by rw [e m]; exact h.syn m hm, h.le, h.by8⟩
theorem Txt.write {F F' : Int → Option Sec} {T : List Int} {k n m : Nat} (h : Txt F T k) (ho : ∀ x : Nat, x ≠ m → F' x = F x) (hm : F' m = match F m with | some (L, s) => some (L ++ [wholeI (secP T m n)], s) | none => some ([wholeI (secP T m n)], false))
    (h1 : n ≤ 63) (h2 : 63 * m + n ≤ T.length) (h3 : min 63 (k - 63 * m) ≤ n) : Txt F' T k := by
  refine ⟨fun x L s e => ?_, fun x hx => ?_, h.le, h.by8⟩
  · by_cases hx : x = m
    · subst hx
      rw [hm] at e
      cases hF : F x with
      | none =>
        rw [hF] at e
        cases e
        exact ⟨by simp, fun V hV => ⟨n, h1, h2, h3, by simpa using hV⟩⟩
      | some sc =>
        obtain ⟨L0, s0⟩ := sc
        rw [hF] at e
        cases e
        refine ⟨by simp, fun V hV => ?_⟩
        rcases List.mem_append.1 hV with hV | hV
        · exact (h.vers x L0 _ hF).2 V hV
        · exact ⟨n, h1, h2, h3, by simpa using hV⟩
    · rw [ho x hx] at e
      exact h.vers x L s e
  · by_cases hxm : x = m
    · subst hxm
      obtain ⟨L, hL⟩ := h.syn x hx
      rw [hm, hL]
      exact ⟨_, rfl⟩
    · rw [ho x hxm]
      exact h.syn x hx
def Cur (F : Int → Option Sec) (T : List Int) (c : Nat) : Prop := ∀ m : Nat, m < c → 63 * m < T.length → ∃ L s, F m = some (L ++ [wholeI (secP T m (min 63 (T.length - 63 * m)))], s)
theorem Cur.same {F F' : Int → Option Sec} {T : List Int} {c : Nat} (h : Cur F T c) (e : ∀ m : Nat, F' m = F m) : Cur F' T c := fun m h1 h2 => by rw [e m]; exact h m h1 h2
theorem Txt.sync {F F' : Int → Option Sec} {T : List Int} {k : Nat} (h : Txt F T k) (hc : ∀ m : Nat, Cur F T m) (e : ∀ m : Nat, F' m = (F m).map lastS) : Txt F' T T.length ∧ (∀ m : Nat, Cur F' T m) ∧ ∀ m : Nat, F' m = none ∨ ∃ V, F' m = some ([V], true) := by
  have hs : ∀ m : Nat, F' m = none ∨ ∃ V, F' m = some ([V], true) := fun m => by
    rw [e m]
    cases F m with
    | none => exact .inl rfl
    | some s => exact .inr ⟨_, rfl⟩
  have hcur : ∀ m : Nat, 63 * m < T.length → F' m = some ([wholeI (secP T m (min 63 (T.length - 63 * m)))], true) := fun m hm => by
    obtain ⟨L, s, hL⟩ := hc (m + 1) m (Nat.lt_succ_self _) hm
    rw [e m, hL]
    simp [lastS]
  refine ⟨⟨fun m L s e1 => ?_, fun m hm => ⟨_, hcur m hm⟩, Nat.le_refl _, h.by8⟩, fun c m _ hm => ⟨[], true, hcur m hm⟩, hs⟩
  by_cases hm : 63 * m < T.length
  · rw [hcur m hm] at e1
    cases e1
    exact ⟨by simp, fun V hV => ⟨min 63 (T.length - 63 * m), by omega, by omega, by omega, by simpa using hV⟩⟩
  · rw [e m] at e1
    cases hF : F m with
    | none => rw [hF] at e1; cases e1
    | some s0 =>
      obtain ⟨L0, b0⟩ := s0
      rw [hF] at e1
      cases e1
      obtain ⟨h1, h2⟩ := h.vers m L0 b0 hF
      refine ⟨by simp, fun V hV => ?_⟩
      have hV' : V = L0.getLastD ByteArray.empty := by simpa using hV
      have hmem : V ∈ L0 := by
        rw [hV', List.getLastD_eq_getLast?, List.getLast?_eq_some_getLast h1]
        exact List.getLast_mem h1
      obtain ⟨n, n1, n2, n3, n4⟩ := h2 V hmem
      exact ⟨n, n1, n2, by omega, n4⟩
theorem Txt.live {st : DSt} {a : Int} {T : List Int} {k : Nat} (h : Txt (st.F a) T k) (hc : ∀ m : Nat, Cur (st.F a) T m) : Sees (sectF st a) T T.length := by
  intro m
  by_cases hm : 63 * m < T.length
  · right
    obtain ⟨L, s, hL⟩ := hc (m + 1) m (Nat.lt_succ_self _) hm
    refine ⟨min 63 (T.length - 63 * m), List.replicate (64 - (secP T m (min 63 (T.length - 63 * m))).length) 0, ?_, by omega, by omega, by omega⟩
    unfold sectF
    rw [hL]
    simp only [Option.map_some, List.getLastD_concat]
    rw [bytes_wholeI (secP_by (by omega) h.by8)]
  · cases hF : st.F a m with
    | none => exact .inl ⟨by unfold sectF; rw [hF]; rfl, by omega⟩
    | some sc =>
      obtain ⟨L, s⟩ := sc
      obtain ⟨h1, h2⟩ := h.vers m L s hF
      obtain ⟨n, n1, n2, n3, n4⟩ := h2 (L.getLastD ByteArray.empty) (by rw [List.getLastD_eq_getLast?, List.getLast?_eq_some_getLast h1]; exact List.getLast_mem h1)
      refine .inr ⟨n, List.replicate (64 - (secP T m n).length) 0, ?_, n1, n2, by omega⟩
      unfold sectF
      rw [hF]
      simp only [Option.map_some]
      rw [n4, bytes_wholeI (secP_by n1 h.by8)]
def FndS (o o' : Option Sec) : Prop := (o = none → o' = none) ∧ ∀ L s, o = some (L, s) → L ≠ [] → (o' = none ∧ s = false) ∨ ∃ V ∈ L, o' = some ([V], true)
theorem Txt.found {st st2 : DSt} {a : Int} {T : List Int} {k : Nat} (h : Txt (st.F a) T k) (hf : ∀ m : Nat, FndS (st.F a m) (st2.F a m)) : Sees (sectF st2 a) T k ∧ ∀ m : Nat, st2.F a m = none ∨ ∃ V, st2.F a m = some ([V], true) := by
  have hs : ∀ m : Nat, st2.F a m = none ∨ ∃ V, st2.F a m = some ([V], true) := fun m => by
    cases hF : st.F a m with
    | none => exact .inl ((hf m).1 hF)
    | some sc =>
      obtain ⟨L, s⟩ := sc
      rcases (hf m).2 L s hF (h.vers m L s hF).1 with h1 | ⟨V, _, h1⟩
      · exact .inl h1.1
      · exact .inr ⟨V, h1⟩
  refine ⟨fun m => ?_, hs⟩
  cases hF : st.F a m with
  | none =>
    left
    refine ⟨by unfold sectF; rw [(hf m).1 hF]; rfl, ?_⟩
    refine Nat.le_of_not_lt fun hm => ?_
    obtain ⟨L, hL⟩ := h.syn m hm
    rw [hF] at hL
    cases hL
  | some sc =>
    obtain ⟨L, s⟩ := sc
    obtain ⟨h1, h2⟩ := h.vers m L s hF
    rcases (hf m).2 L s hF h1 with ⟨h3, h4⟩ | ⟨V, hV, h3⟩
    · left
      refine ⟨by unfold sectF; rw [h3]; rfl, Nat.le_of_not_lt fun hm => ?_⟩
      obtain ⟨L', hL'⟩ := h.syn m hm
      rw [hF] at hL'
      cases hL'
      cases h4
    · obtain ⟨n, n1, n2, n3, n4⟩ := h2 V hV
      refine .inr ⟨n, List.replicate (64 - (secP T m n).length) 0, ?_, n1, n2, n3⟩
      unfold sectF
      rw [h3]
      simp only [Option.map_some, List.getLastD_cons, List.getLastD_nil]
      rw [n4, bytes_wholeI (secP_by n1 h.by8)]
end Go.Proofs.YtcpkpljeimbdiaaGreat.W
namespace Go.Proofs.YtcpkpljeimbdiaaGreat.W
open Go.RowKit
open Aid K
set_option linter.unusedSimpArgs false
set_option linter.unusedVariables false
abbrev Lg := Int × List (List Int)
structure Sg where
  nu : Int
  ix : Nat
  bs : List (List Int)
def lay (x : Lg) (c : Sg) : Lg := if (c.ix : Int) < x.1 then ((c.ix : Int), c.bs) else (x.1, x.2.take ((c.ix : Int) - x.1).toNat ++ c.bs)
def chO (C : List Sg) : Option Lg := C.foldl (fun o c => some (match o with | none => ((c.ix : Int), c.bs) | some x => lay x c)) none
def chD (d : Int) (C : List Sg) : Lg := (chO C).getD (d, [])
theorem chO_snoc (C : List Sg) (c : Sg) : chO (C ++ [c]) = some (match chO C with | none => ((c.ix : Int), c.bs) | some x => lay x c) := by
  unfold chO; rw [List.foldl_append]; rfl
def Suf (a b : Lg) : Prop := b.1 ≤ a.1 ∧ a.1 + a.2.length = b.1 + b.2.length ∧ b.2.drop (a.1 - b.1).toNat = a.2
theorem Suf.refl (a : Lg) : Suf a a := ⟨Int.le_refl _, rfl, by simp⟩
theorem Suf.trans {a b c : Lg} (h : Suf a b) (k : Suf b c) : Suf a c := by
  obtain ⟨h1, h2, h3⟩ := h
  obtain ⟨k1, k2, k3⟩ := k
  refine ⟨by omega, by omega, ?_⟩
  rw [← h3, ← k3, List.drop_drop]
  congr 1
  omega
theorem Suf.two {a b c : Lg} (h : Suf a c) (k : Suf b c) (hl : b.1 ≤ a.1) : Suf a b := by
  obtain ⟨h1, h2, h3⟩ := h
  obtain ⟨k1, k2, k3⟩ := k
  refine ⟨hl, by omega, ?_⟩
  rw [← h3, ← k3, List.drop_drop]
  congr 1
  omega
theorem Suf.push {a b : Lg} (h : Suf a b) (x : List (List Int)) : Suf (a.1, a.2 ++ x) (b.1, b.2 ++ x) := by
  obtain ⟨h1, h2, h3⟩ := h
  refine ⟨h1, by simp only [List.length_append]; omega, ?_⟩
  have hl : (a.1 - b.1).toNat ≤ b.2.length := by omega
  simp only
  rw [List.drop_append_of_le_length hl, h3]
theorem Suf.cut {a b : Lg} (h : Suf a b) {i : Int} (h1 : a.1 ≤ i) (h2 : i ≤ a.1 + a.2.length) : Suf (a.1, a.2.take (i - a.1).toNat) (b.1, b.2.take (i - b.1).toNat) := by
  obtain ⟨k1, k2, k3⟩ := h
  refine ⟨k1, by simp only [List.length_take]; omega, ?_⟩
  simp only
  rw [← k3, List.drop_take, show (i - b.1).toNat - (a.1 - b.1).toNat = (i - a.1).toNat by omega]
theorem Suf.later {a b : Lg} (h : Suf a b) {i : Int} (h1 : a.1 ≤ i) (h2 : i ≤ a.1 + a.2.length) : Suf (i, a.2.drop (i - a.1).toNat) b := by
  obtain ⟨k1, k2, k3⟩ := h
  refine ⟨by simp only; omega, by simp only [List.length_drop]; omega, ?_⟩
  simp only
  rw [← k3, List.drop_drop]
  congr 1
  omega
theorem lay_end {x : Lg} {c : Sg} (h : (c.ix : Int) ≤ x.1 + x.2.length) : (lay x c).1 + (lay x c).2.length = c.ix + c.bs.length := by
  unfold lay
  split
  · rfl
  · simp only [List.length_append, List.length_take]; omega
theorem lay_first (x : Lg) (c : Sg) : (lay x c).1 ≤ x.1 ∧ (lay x c).1 ≤ c.ix := by
  unfold lay
  split
  · simp only; omega
  · simp only; omega
theorem lay_push (x : Lg) (c : Sg) (y : List (List Int)) : lay x { c with bs := c.bs ++ y } = ((lay x c).1, (lay x c).2 ++ y) := by
  unfold lay
  simp only
  split
  · rfl
  · rw [List.append_assoc]
theorem lay_suf {a b : Lg} {c : Sg} (h : Suf a b) (hc : (c.ix : Int) ≤ b.1 + b.2.length) : Suf (lay a c) (lay b c) := by
  obtain ⟨h1, h2, h3⟩ := h
  unfold lay
  by_cases k1 : (c.ix : Int) < b.1
  · rw [if_pos k1, if_pos (by omega)]
    exact Suf.refl _
  · rw [if_neg k1]
    by_cases k2 : (c.ix : Int) < a.1
    · rw [if_pos k2]
      refine ⟨by simp only; omega, by simp only [List.length_append, List.length_take]; omega, ?_⟩
      have hl : (b.2.take ((c.ix : Int) - b.1).toNat).length = ((c.ix : Int) - b.1).toNat := by rw [List.length_take]; omega
      simp only
      rw [List.drop_append_of_le_length (by omega), List.drop_of_length_le (by omega), List.nil_append]
    · rw [if_neg k2]
      refine ⟨h1, by simp only [List.length_append, List.length_take]; omega, ?_⟩
      simp only
      rw [List.drop_append_of_le_length (by rw [List.length_take]; omega), ← h3, List.drop_take]
      rw [show ((c.ix : Int) - b.1).toNat - (a.1 - b.1).toNat = ((c.ix : Int) - a.1).toNat by omega]
def Conn : List Sg → Prop
  | [] => True
  | [_] => True
  | c :: d :: t => (d.ix : Int) ≤ c.ix + c.bs.length ∧ Conn (d :: t)
theorem Conn.tail {c : Sg} {t : List Sg} (h : Conn (c :: t)) : Conn t := by
  cases t with
  | nil => trivial
  | cons d t => exact h.2
def endS : List Sg → Int
  | [] => 0
  | [c] => c.ix + c.bs.length
  | _ :: d :: t => endS (d :: t)
theorem endS_snoc : ∀ (C : List Sg) (c : Sg), endS (C ++ [c]) = c.ix + c.bs.length
  | [], c => rfl
  | [_], c => rfl
  | _ :: d :: t, c => endS_snoc (d :: t) c
theorem Conn.snoc : ∀ {C : List Sg} {c : Sg}, Conn C → (C ≠ [] → (c.ix : Int) ≤ endS C) → Conn (C ++ [c])
  | [], c, _, _ => trivial
  | [d], c, _, h => ⟨h (by simp), trivial⟩
  | _ :: d :: t, c, hC, h => ⟨hC.1, Conn.snoc (C := d :: t) hC.2 (fun _ => h (by simp))⟩
theorem Conn.front : ∀ {C : List Sg} {c : Sg}, Conn (C ++ [c]) → Conn C ∧ (C ≠ [] → (c.ix : Int) ≤ endS C)
  | [], c, _ => ⟨trivial, fun h => absurd rfl h⟩
  | [d], c, h => ⟨trivial, fun _ => h.1⟩
  | _ :: d :: t, c, h => by
    obtain ⟨h1, h2⟩ := Conn.front (C := d :: t) h.2
    exact ⟨⟨h.1, h1⟩, fun _ => h2 (by simp)⟩
def chF (x : Lg) (C : List Sg) : Lg := C.foldl lay x
theorem chO_cons (c : Sg) (C : List Sg) : chO (c :: C) = some (chF ((c.ix : Int), c.bs) C) := by
  have key : ∀ (C : List Sg) (x : Lg), C.foldl (fun o c => some (match o with | none => ((c.ix : Int), c.bs) | some x => lay x c)) (some x) = some (chF x C) := by
    intro C
    induction C with
    | nil => intro x; rfl
    | cons d t ih => intro x; exact ih (lay x d)
  exact key C _
theorem chF_suf : ∀ (C : List Sg) {a b : Lg} {e : Int}, Suf a b → b.1 + b.2.length = e → (∀ c t, C = c :: t → (c.ix : Int) ≤ e) → Conn C → Suf (chF a C) (chF b C)
  | [], a, b, e, h, _, _, _ => h
  | c :: t, a, b, e, h, he, hc, hC => by
    have hce := hc c t rfl
    refine chF_suf t (lay_suf h (by omega)) (lay_end (by omega)) (fun d t' ht => ?_) hC.tail
    subst ht
    exact hC.1
theorem chF_first : ∀ (C : List Sg) (x : Lg), (chF x C).1 ≤ x.1 ∧ ∀ c ∈ C, (chF x C).1 ≤ c.ix
  | [], x => ⟨Int.le_refl _, fun c hc => by cases hc⟩
  | d :: t, x => by
    obtain ⟨h1, h2⟩ := chF_first t (lay x d)
    obtain ⟨k1, k2⟩ := lay_first x d
    refine ⟨Int.le_trans h1 k1, fun c hc => ?_⟩
    rcases List.mem_cons.1 hc with rfl | hc
    · exact Int.le_trans h1 k2
    · exact h2 c hc
theorem chF_end : ∀ (C : List Sg) (c : Sg) {x : Lg}, x.1 + x.2.length = c.ix + c.bs.length → Conn (c :: C) → (chF x C).1 + (chF x C).2.length = endS (c :: C)
  | [], c, x, h, _ => h
  | d :: t, c, x, h, hC => chF_end t d (lay_end (by have := hC.1; omega)) hC.2
theorem chD_end {d : Int} {C : List Sg} (hC : Conn C) (hn : C ≠ []) : (chD d C).1 + (chD d C).2.length = endS C := by
  cases C with
  | nil => exact absurd rfl hn
  | cons c t =>
    unfold chD
    rw [chO_cons]
    exact chF_end t c rfl hC
theorem chD_first {d : Int} {C : List Sg} {c : Sg} (h : c ∈ C) : (chD d C).1 ≤ c.ix := by
  cases C with
  | nil => cases h
  | cons a t =>
    unfold chD
    rw [chO_cons]
    obtain ⟨h1, h2⟩ := chF_first t ((a.ix : Int), a.bs)
    rcases List.mem_cons.1 h with rfl | h
    · exact h1
    · exact h2 c h
theorem chD_tail {d : Int} {c e : Sg} {t : List Sg} (h : Conn (c :: e :: t)) : Suf (chD d (e :: t)) (chD d (c :: e :: t)) := by
  unfold chD
  rw [chO_cons, chO_cons]
  show Suf (chF ((e.ix : Int), e.bs) t) (chF ((c.ix : Int), c.bs) (e :: t))
  have h1 := h.1
  show Suf (chF ((e.ix : Int), e.bs) t) (chF (lay ((c.ix : Int), c.bs) e) t)
  refine chF_suf t (e := e.ix + e.bs.length) ?_ (lay_end (by simp only; omega)) (fun x t' ht => ?_) h.2.tail
  · unfold lay
    simp only
    split
    · exact Suf.refl _
    · refine ⟨by simp only; omega, by simp only [List.length_append, List.length_take]; omega, ?_⟩
      simp only
      have hl : (c.bs.take ((e.ix : Int) - c.ix).toNat).length = ((e.ix : Int) - c.ix).toNat := by rw [List.length_take]; omega
      rw [List.drop_append_of_le_length (by omega), List.drop_of_length_le (by omega), List.nil_append]
  · subst ht
    exact h.2.1
theorem chD_snoc {d : Int} {C : List Sg} {c : Sg} (hn : C ≠ []) : chD d (C ++ [c]) = lay (chD d C) c := by
  unfold chD
  rw [chO_snoc]
  cases C with
  | nil => exact absurd rfl hn
  | cons a t => rw [chO_cons]; rfl
theorem chD_push {d : Int} {C : List Sg} {c : Sg} (y : List (List Int)) : chD d (C ++ [{ c with bs := c.bs ++ y }]) = ((chD d (C ++ [c])).1, (chD d (C ++ [c])).2 ++ y) := by
  by_cases hn : C = []
  · subst hn; rfl
  · rw [chD_snoc hn, chD_snoc hn, lay_push]
theorem chD_void {d : Int} {C : List Sg} {nu : Int} {ix : Nat} {a : Lg} (h : Suf a (chD d C)) (h1 : a.1 ≤ ix) (h2 : (ix : Int) ≤ a.1 + a.2.length) (hd : C = [] → a.1 = (d : Int)) : Suf (a.1, a.2.take ((ix : Int) - a.1).toNat) (chD d (C ++ [⟨nu, ix, []⟩])) := by
  by_cases hn : C = []
  · subst hn
    obtain ⟨k1, k2, k3⟩ := h
    have h0 := hd rfl
    have k2' : a.1 + a.2.length = d + (([] : List (List Int)).length : Int) := k2
    simp only [List.length_nil] at k2'
    have hl : a.2 = [] := List.eq_nil_of_length_eq_zero (by omega)
    rw [hl]
    have hix : (ix : Int) = a.1 := by rw [hl] at h2; simp only [List.length_nil] at h2; omega
    show Suf (a.1, _) ((ix : Int), [])
    rw [hix]
    simp only [List.take_nil]
    exact Suf.refl _
  · rw [chD_snoc hn]
    have k := h.cut h1 h2
    unfold lay
    have h3 := h.1
    rw [if_neg (by simp only; omega)]
    simp only [List.append_nil]
    exact k
end Go.Proofs.YtcpkpljeimbdiaaGreat.W
namespace Go.Proofs.YtcpkpljeimbdiaaGreat.W
open Go.RowKit
open Aid K
set_option linter.unusedSimpArgs false
set_option linter.unusedVariables false
def ReadsAs (T : List Int) (ix : Nat) (bs : List (List Int)) : Prop := ∀ (s : LSt) (nu : Int), rdS s nu T = match folF s nu ix with
  | none => (s, false, false)
  | some s' => ({ s' with L := s'.L ++ bs }, true, false)
theorem fullR_end : ∀ (bs : List (List Int)) (m : Nat), (recT bs).length ≤ m → fullR bs m = bs.length
  | [], _, _ => rfl
  | b :: bs, m, h => by
    rw [recT, List.length_append] at h
    rw [fullR, if_neg (by omega), fullR_end bs _ (by omega)]
    rfl
theorem segT_len (ix : Nat) (bs : List (List Int)) : (segT ix bs).length = (putU ix).length + (recT bs).length := by unfold segT; rw [List.length_append]
theorem reads_seg {ix : Nat} {bs : List (List Int)} (hix : ix ≤ 4611686018427387904) (hb : ∀ b ∈ bs, b.length ≤ 512) : ReadsAs (segT ix bs) ix bs := fun s nu => by
  have h := rdS_cut (s := s) (nu := nu) (m := (segT ix bs).length) hix hb
  have hl := segT_len ix bs
  rw [List.take_length, if_neg (by omega)] at h
  rw [fullR_end bs _ (by omega), List.take_length] at h
  refine h.trans ?_
  cases folF s nu (ix : Int) <;> rfl
structure SgOk (c : Sg) : Prop where
  n0 : 0 ≤ c.nu
  n1 : c.nu < 2305843009213693952
  size : ∀ b ∈ c.bs, b.length ≤ 512
  by8 : ∀ b ∈ c.bs, By8 b
  top : c.ix + c.bs.length ≤ 4611686018427387904
theorem SgOk.take {c : Sg} (h : SgOk c) (j : Nat) : SgOk { c with bs := c.bs.take j } :=
  ⟨h.n0, h.n1, fun b hb => h.size b (List.mem_of_mem_take hb), fun b hb => h.by8 b (List.mem_of_mem_take hb), by have := h.top; show c.ix + (c.bs.take j).length ≤ _; rw [List.length_take]; omega⟩
theorem recT_by : ∀ {bs : List (List Int)}, (∀ b ∈ bs, By8 b ∧ b.length ≤ 512) → By8 (recT bs)
  | [], _ => fun x hx => by cases hx
  | b :: bs, h => fun x hx => by
    rw [recT] at hx
    obtain ⟨h1, h2⟩ := h b (by simp)
    rcases List.mem_append.1 hx with hx | hx
    · unfold putB at hx
      rcases List.mem_append.1 hx with hx | hx
      · exact putU_by8 (by omega) x hx
      · exact h1 x hx
    · exact recT_by (fun y hy => h y (by simp [hy])) x hx
theorem SgOk.text {c : Sg} (h : SgOk c) : By8 (segT c.ix c.bs) := fun x hx => by
  unfold segT at hx
  rcases List.mem_append.1 hx with hx | hx
  · exact putU_by8 (by have := h.top; omega) x hx
  · exact recT_by (fun b hb => ⟨h.by8 b hb, h.size b hb⟩) x hx
structure Clsd (st : DSt) (c : Sg) : Prop where
  one : ∀ m : Nat, st.F (4 * c.nu + 1) m = none ∨ ∃ V, st.F (4 * c.nu + 1) m = some ([V], true)
  text : ReadsAs (textF st (4 * c.nu + 1) 65537 0) c.ix c.bs
  there : st.A (4 * c.nu + 1) = true
def all (C : List Sg) (l : Option (Sg × Nat)) : List Sg := match l with
  | none => C
  | some (c, _) => C ++ [c]
structure OnD (st : DSt) (C : List Sg) (l : Option (Sg × Nat)) : Prop where
  cls : ∀ c ∈ C, Clsd st c
  lst : ∀ c k, l = some (c, k) → Txt (st.F (4 * c.nu + 1)) (segT c.ix c.bs) k ∧ (segT c.ix c.bs).length ≤ 100000
  asc : (all C l).Pairwise (fun a b => a.nu < b.nu)
  ok : ∀ c ∈ all C l, SgOk c
  only : ∀ n, 0 ≤ n → st.A (4 * n + 1) = true → ∃ c ∈ all C l, c.nu = n
  conn : Conn (all C l)
theorem Clsd.same {st st' : DSt} {c : Sg} (h : Clsd st c) (hF : ∀ m : Nat, st'.F (4 * c.nu + 1) m = st.F (4 * c.nu + 1) m) (hA : st'.A (4 * c.nu + 1) = st.A (4 * c.nu + 1)) : Clsd st' c :=
  ⟨fun m => by rw [hF m]; exact h.one m, by rw [textF_ext (st := st) (st2 := st') (a := 4 * c.nu + 1) (fun m => by unfold sectF; rw [hF m]) 65537 0]; exact h.text, by rw [hA]; exact h.there⟩
theorem OnD.same {st st' : DSt} {C : List Sg} {l : Option (Sg × Nat)} (h : OnD st C l) (hF : st'.F = st.F) (hA : st'.A = st.A) : OnD st' C l :=
  ⟨fun c hc => (h.cls c hc).same (fun m => by rw [hF]) (by rw [hA]), fun c k e => by rw [hF]; exact h.lst c k e, h.asc, h.ok, by rw [hA]; exact h.only, h.conn⟩
theorem mem_all_left {C : List Sg} {l : Option (Sg × Nat)} {c : Sg} (h : c ∈ C) : c ∈ all C l := by
  cases l with
  | none => exact h
  | some x => exact List.mem_append_left _ h
theorem mem_all_last {C : List Sg} {c : Sg} {k : Nat} : c ∈ all C (some (c, k)) := by simp [all]
theorem OnD.apart {st : DSt} {C : List Sg} {c : Sg} {k : Nat} (h : OnD st C (some (c, k))) {d : Sg} (hd : d ∈ C) : d.nu < c.nu := by
  have h1 := h.asc
  unfold all at h1
  exact (List.pairwise_append.1 h1).2.2 d hd c (by simp)
def putV (o : Option Sec) (V : ByteArray) : Sec := match o with
  | some (L, s) => (L ++ [V], s)
  | none => ([V], false)
theorem write_F (st : DSt) (a n : Int) (l : List Int) (x y : Int) : (writeF st a n l).F x y = if x = a ∧ y = n then some (putV (st.F a n) (wholeI l)) else st.F x y := by
  unfold writeF
  cases hF : st.F a n with
  | some sc =>
    obtain ⟨L, s⟩ := sc
    rfl
  | none =>
    simp only
    by_cases hA : st.A a = true
    · rw [if_pos hA]; rfl
    · rw [if_neg hA]; rfl
theorem write_A (st : DSt) (a n : Int) (l : List Int) (hp : ∀ x, st.A x = true ↔ ∃ n, (st.F x n).isSome = true) (x : Int) : (writeF st a n l).A x = if x = a then true else st.A x := by
  unfold writeF
  cases hF : st.F a n with
  | some sc =>
    obtain ⟨L, s⟩ := sc
    show st.A x = _
    split
    · rename_i h; subst h; exact (hp x).2 ⟨n, by rw [hF]; rfl⟩
    · rfl
  | none =>
    simp only
    by_cases hA : st.A a = true
    · rw [if_pos hA]
      show st.A x = _
      split
      · rename_i h; subst h; exact hA
      · rfl
    · rw [if_neg hA]
      show updA st.A a true x = _
      rfl
theorem write_room (st : DSt) (a n : Int) (l : List Int) : st.room - 1 ≤ (writeF st a n l).room := by
  unfold writeF
  cases hF : st.F a n with
  | some sc =>
    obtain ⟨L, s⟩ := sc
    show st.room - 1 ≤ st.room
    omega
  | none =>
    simp only
    by_cases hA : st.A a = true
    · rw [if_pos hA]; exact Int.le_refl _
    · rw [if_neg hA]; exact Int.le_refl _
theorem OnD.write {st : DSt} {C : List Sg} {c : Sg} {k m : Nat} (h : OnD st C (some (c, k))) (hP : Pln st) (hm : 63 * m ≤ (segT c.ix c.bs).length) :
    OnD (writeF st (4 * c.nu + 1) m (secP (segT c.ix c.bs) m (min 63 ((segT c.ix c.bs).length - 63 * m)))) C (some (c, k)) := by
  obtain ⟨T, hT⟩ : ∃ T, segT c.ix c.bs = T := ⟨_, rfl⟩
  have hl := h.lst c k rfl
  rw [hT] at hl hm ⊢
  have hF := write_F st (4 * c.nu + 1) m (secP T m (min 63 (T.length - 63 * m)))
  have hA := write_A st (4 * c.nu + 1) m (secP T m (min 63 (T.length - 63 * m))) hP.pres
  refine ⟨fun d hd => ?_, fun c' k' e => ?_, h.asc, h.ok, fun n hn ha => ?_, h.conn⟩
  · have hne := h.apart hd
    exact (h.cls d hd).same (fun x => by rw [hF, if_neg (fun hh => by omega)]) (by rw [hA, if_neg (by omega)])
  · cases e
    rw [hT]
    refine ⟨hl.1.write (m := m) (n := min 63 (T.length - 63 * m)) (fun x hx => by rw [hF, if_neg (fun hh => hx (by omega))]) ?_ (by omega) (by omega) (by have := hl.1.le; omega), hl.2⟩
    rw [hF, if_pos ⟨rfl, rfl⟩]
    unfold putV
    cases st.F (4 * c.nu + 1) m with
    | none => rfl
    | some sc => rfl
  · rw [hA] at ha
    by_cases hc : n = c.nu
    · exact ⟨c, mem_all_last, hc.symm⟩
    · rw [if_neg (by omega)] at ha
      exact h.only n hn ha
theorem secW_secP {T : List Int} {m : Nat} : secW (T.drop (63 * m)) = secP T m (min 63 (T.length - 63 * m)) := by
  unfold secW secP
  rw [List.length_drop]
  have e1 : min (T.length - 63 * m) 63 = min 63 (T.length - 63 * m) := Nat.min_comm _ _
  rw [e1]
  congr 1
  by_cases h : 63 ≤ T.length - 63 * m
  · rw [Nat.min_eq_left h]
  · rw [Nat.min_eq_right (by omega), List.take_of_length_le (by rw [List.length_drop]; omega), List.take_of_length_le (by rw [List.length_drop]; omega)]
theorem wrF_ond {C : List Sg} {c : Sg} {k : Nat} {T : List Int} (hT : segT c.ix c.bs = T) : ∀ (f : Nat) {st : DSt} {full : Nat} {rest : List Int}, OnD st C (some (c, k)) → Pln st → st.dead = false → (f : Int) ≤ st.room → 1 ≤ rest.length → rest.length ≤ f →
    63 * full ≤ T.length → T.drop (63 * full) = rest → Cur (st.F (4 * c.nu + 1)) T full →
    OnD (wrF (4 * c.nu + 1) f st full rest).1 C (some (c, k)) ∧ Pln (wrF (4 * c.nu + 1) f st full rest).1 ∧ st.room - f ≤ (wrF (4 * c.nu + 1) f st full rest).1.room ∧
    ((wrF (4 * c.nu + 1) f st full rest).1.dead = false → (wrF (4 * c.nu + 1) f st full rest).2.2.2 = 0) ∧
    ((wrF (4 * c.nu + 1) f st full rest).2.2.2 = 0 → (∀ m : Nat, Cur ((wrF (4 * c.nu + 1) f st full rest).1.F (4 * c.nu + 1)) T m) ∧ T.drop (63 * (wrF (4 * c.nu + 1) f st full rest).2.1) = (wrF (4 * c.nu + 1) f st full rest).2.2.1 ∧ 63 * (wrF (4 * c.nu + 1) f st full rest).2.1 ≤ T.length)
  | 0, st, full, rest, _, _, _, _, h1, h2, _, _, _ => by omega
  | f + 1, st, full, rest, hO, hP, hd, hr, h1, h2, hfu, hrest, hcur => by
    have hlen : rest.length = T.length - 63 * full := by rw [← hrest, List.length_drop]
    have hlst := (hO.lst c k rfl).2
    rw [hT] at hlst
    have hok := hO.ok c mem_all_last
    have hsec : secW rest = secP T full (min 63 (T.length - 63 * full)) := by rw [← hrest]; exact secW_secP
    have hbad : ¬ BadW st (4 * c.nu + 1) full (secW rest) := by
      unfold BadW
      rintro (h | h | ⟨_, h⟩)
      · rw [hd] at h; cases h
      · have := secW_len rest; omega
      · omega
    have hS : doS st 0 (4 * c.nu + 1) full (secW rest) = writeF st (4 * c.nu + 1) full (secW rest) := by unfold doS; rw [if_pos rfl, if_neg hbad]
    have hE : doE st 0 (4 * c.nu + 1) full (secW rest) = if (writeF st (4 * c.nu + 1) full (secW rest)).dead = true then 30 else 0 := by unfold doE; rw [if_pos rfl, if_neg hbad]
    have hO1 : OnD (writeF st (4 * c.nu + 1) full (secW rest)) C (some (c, k)) := by
      have := hO.write (m := full) hP (by rw [hT]; exact hfu)
      rw [hT, ← hsec] at this
      exact this
    have hP1 : Pln (writeF st (4 * c.nu + 1) full (secW rest)) := hP.write ⟨by have := hok.n0; omega, by have := hok.n1; omega⟩ ⟨by omega, by omega⟩ (secW_len rest)
    have hroom := write_room st (4 * c.nu + 1) full (secW rest)
    have hF := write_F st (4 * c.nu + 1) full (secW rest)
    rw [wrF, hS, hE]
    obtain ⟨st1, hst1⟩ : ∃ st1, writeF st (4 * c.nu + 1) full (secW rest) = st1 := ⟨_, rfl⟩
    rw [hst1] at hO1 hP1 hroom hF ⊢
    have hc1 : ∀ m : Nat, m < full + 1 → 63 * m < T.length → ∃ L s, st1.F (4 * c.nu + 1) m = some (L ++ [wholeI (secP T m (min 63 (T.length - 63 * m)))], s) := by
      intro m hm hmT
      rw [hF]
      by_cases e : m = full
      · subst e
        rw [if_pos ⟨rfl, rfl⟩, ← hsec]
        unfold putV
        cases st.F (4 * c.nu + 1) m with
        | none => exact ⟨[], false, rfl⟩
        | some sc => exact ⟨sc.1, sc.2, rfl⟩
      · rw [if_neg (fun hh => e (by omega))]
        exact hcur m (by omega) hmT
    by_cases hdd : st1.dead = true
    · rw [if_pos hdd]
      rw [if_pos (.inl (by decide))]
      refine ⟨hO1, hP1, by simp only; omega, fun hh => ?_, fun hh => ?_⟩
      · simp only at hh; rw [hdd] at hh; cases hh
      · simp only at hh; cases hh
    · rw [if_neg hdd]
      by_cases h63 : rest.length < 63
      · rw [if_pos (.inr h63)]
        refine ⟨hO1, hP1, by simp only; omega, fun _ => rfl, fun _ => ⟨fun m x hx hxT => hc1 x (by omega) hxT, hrest, hfu⟩⟩
      · rw [if_neg (by simp; omega)]
        have hdr : T.drop (63 * (full + 1)) = rest.drop 63 := by rw [← hrest, List.drop_drop]; congr 1
        by_cases hnil : rest.drop 63 = []
        · rw [if_pos hnil]
          have hz : rest.length ≤ 63 := by have := congrArg List.length hnil; rw [List.length_drop] at this; simp at this; omega
          refine ⟨hO1, hP1, by simp only; omega, fun _ => rfl, fun _ => ⟨fun m x hx hxT => hc1 x (by omega) hxT, by simp only; rw [hdr, hnil], by simp only; omega⟩⟩
        · rw [if_neg hnil]
          have hpos : 1 ≤ (rest.drop 63).length := Nat.one_le_iff_ne_zero.2 (fun h => hnil (List.eq_nil_of_length_eq_zero h))
          have hpos' := hpos
          rw [List.length_drop] at hpos'
          obtain ⟨q1, q2, q3, q4, q5⟩ := wrF_ond hT f (st := st1) (full := full + 1) (rest := rest.drop 63) hO1 hP1 (by simpa using hdd) (by omega) hpos (by rw [List.length_drop]; omega) (by omega) hdr (fun m hm hmT => hc1 m hm hmT)
          exact ⟨q1, q2, by omega, q4, q5⟩
end Go.Proofs.YtcpkpljeimbdiaaGreat.W
