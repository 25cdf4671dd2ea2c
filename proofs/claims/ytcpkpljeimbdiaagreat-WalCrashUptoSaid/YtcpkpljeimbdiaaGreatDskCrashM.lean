/-
  DskAreas + DskCrashL + DskCrashM.
-/
import Derived.Test.YtcpkpljeimbdiaaGreatKeysU
import Derived.Test.YtcpkpljeimbdiaaGreatDskFree
import Derived.Test.YtcpkpljeimbdiaaGreatKeysI
namespace Go.Proofs.YtcpkpljeimbdiaaGreat.K
open Go.RowKit
open Aid
set_option linter.unusedSimpArgs false
set_option linter.unusedVariables false

set_option maxRecDepth 100000 in
theorem keysU_any (mb : Option Nat) (w : World) : Calls Tryz.prog 44 #[.map mb] w fun e w' => e = .returned (.func (.func 62) #[] #[.pointer (some ⟨w.heap.size, 0, none⟩)]) ∧ w' = w.alloc (.cells #[.map mb] 45) := by
  go_enter Tryz.func44, Tryz.ntmps44
  go_wp2_with fail
  go_ret
  exact ⟨rfl, rfl⟩
/-- the areas of a disk, each once -/
def AreasOf (st : DSt) (xs : List Int) : Prop := xs.Nodup ∧ (∀ x ∈ xs, (Lit.int .u64 x).wf = true) ∧ ∀ x, (Lit.int .u64 x).wf = true → (x ∈ xs ↔ st.A x = true)
set_option maxRecDepth 100000 in
set_option maxHeartbeats 1000000 in
theorem areas_any (O : Nat → Prop) (p : Nat) (st : DSt) (w : World) (h : DiskIs O w p st) (hc : st.C ≤ 4398046511104) : Calls Tryz.prog 22 #[.pointer (some ⟨p, 0, none⟩)] w fun e w' => ∃ v xs, e = .returned v ∧ (AreasOf st xs ∧ xs.length ≤ st.C) ∧ QU.SortedAt w w' v (QU.srt xs) ∧ Below w.heap.size w w' := by
  obtain ⟨m, G, hD⟩ := h
  obtain ⟨c0, c1, c2, c3, c4⟩ := hD.cells
  have hb1 : Below w.heap.size w (w.alloc (.cells #[.map (some m)] 45)) := (Below.refl _ _).alloc (Nat.le_refl _) _
  have hM := hD.outer.kept (w' := w.alloc (.cells #[.map (some m)] 45)) (hb1.block m hD.outer.lt)
  have hcell : (w.alloc (.cells #[.map (some m)] 45)).cell? ⟨w.heap.size, 0, none⟩ = some (.map (some m)) := cell_new _ _ _ _ rfl
  have hsort := QU.sorted_any w.heap.size m st.C _ _ hc (by simp) hcell hM
  have hpres := hD.present
  clear hM hcell hD
  go_enter Tryz.func22, Tryz.ntmps22
  go_wp2_with fail
  refine (keysU_any (some m) w).mono ?_
  rintro e w1 ⟨rfl, rfl⟩
  go_wp2_with fail
  refine hsort.mono ?_
  rintro e w2 ⟨v, xs, rfl, ⟨⟨k1, k2, k3⟩, hl⟩, hS, hb2⟩
  have hS' : QU.SortedAt w w2 v (QU.srt xs) := by
    rcases hS with h | ⟨g, cap, h1, h2, h3⟩
    · exact .inl h
    · exact .inr ⟨g, cap, h1, by have := hb1.size; omega, h3⟩
  have hA : AreasOf st xs := ⟨k1, k2, fun x hx => by rw [k3 x hx, hpres, Option.isSome_map]⟩
  clear hS k1 k2 k3 hsort
  go_wp2_with fail
  go_ret
  exact ⟨v, xs, rfl, ⟨hA, hl⟩, hS', hb1.trans (hb2.mono hb1.size)⟩

/-- the version that is found by a pick -/
def foundF (s : Sec) (pick : Int) : Option ByteArray :=
  if s.2 = true then s.1[(max pick 0).toNat % s.1.length]? else if (max pick 0).toNat % (s.1.length + 1) = 0 then none else s.1[(max pick 0).toNat % (s.1.length + 1) - 1]?
set_option maxRecDepth 100000 in
set_option maxHeartbeats 2000000 in
theorem found_any (O : Nat → Prop) (v : Value) (L : List ByteArray) (sy : Bool) (pick : Int) (w : World) (h : Vers O w v L) (hL : L ≠ []) (hL2 : L.length < 4398046511104) (hp : (Lit.int .i64 pick).wf = true) :
    Calls Tryz.prog 25 #[.agg #[v, .bool sy], .int .i64 pick] w fun e w' => e = .returned (.tuple #[.string ((foundF (L, sy) pick).getD ByteArray.empty), .bool (foundF (L, sy) pick).isSome]) ∧ Below w.heap.size w w' := by
  have hpick : -9223372036854775808 ≤ pick ∧ pick ≤ 9223372036854775807 := by
    have := hp
    simp [Lit.wf, IntKind.min, IntKind.max, IntKind.signed, IntKind.bits] at this
    omega
  obtain ⟨h63, av, cv, rfl, hlc, hnil, hcell⟩ := h
  have hlen : 0 < L.length := List.length_pos_iff.2 hL
  have hb : Below w.heap.size w (w.alloc (.cells #[.slice av L.length cv, .bool sy] 68)) := (Below.refl _ _).alloc (Nat.le_refl _) _
  obtain ⟨k, hk⟩ : ∃ k, (max pick 0).toNat = k := ⟨_, rfl⟩
  obtain ⟨b, o, rfl, _⟩ := hcell 0 hlen
  have hcells : ∀ j, j < L.length → (w.alloc (.cells #[.slice (some ⟨b, o, none⟩) L.length cv, .bool sy] 68)).cell? ⟨b, o + j, none⟩ = some (.string (L.getD j ByteArray.empty)) := fun j hj => by
    obtain ⟨b', o', e, _, hlt, hc⟩ := hcell j hj
    simp only [Option.some.injEq, Addr.mk.injEq] at e
    obtain ⟨rfl, rfl, _⟩ := e
    exact (hb.cell (p := ⟨b, o + j, none⟩) hlt).trans hc
  have HC := Lib.hid hcells
  have hget : ∀ j, j < L.length → L[j]? = some (L.getD j ByteArray.empty) := fun j hj => by rw [List.getD_eq_getElem?_getD, List.getElem?_eq_getElem hj]; rfl
  have HG := Lib.hid hget
  clear hcells hcell hget hnil
  have hm1 : wrap64 (-1) = -1 := IntWalk.wrap64_in _ (by omega)
  obtain ⟨M, hM⟩ : ∃ M, L.length + 1 = M := ⟨_, rfl⟩
  have EM : (L.length : Int) + 1 = (M : Int) := by omega
  by_cases hp0 : pick < 0
  · have hk0 : k = 0 := by rw [← hk]; have : max pick 0 = 0 := by omega
                           rw [this]; rfl
    cases sy
    · have HF : Hid (foundF (L, false) pick = none) := by
        show _ = _
        unfold foundF
        rw [if_neg Bool.false_ne_true, hk, hk0, Nat.zero_mod, if_pos rfl]
      go_enter Tryz.func25, Tryz.ntmps25
      go_wp2_with fail
      all_goals first
        | (exfalso; omega)
        | (go_ret2; rw [HF.out]; exact ⟨rfl, hb⟩)
    · obtain ⟨S, hS⟩ : ∃ S, L.getD 0 ByteArray.empty = S := ⟨_, rfl⟩
      have HF : Hid (foundF (L, true) pick = some S) := by
        show _ = _
        unfold foundF
        rw [if_pos rfl, hk, hk0, Nat.zero_mod, ← hS]
        exact HG.out 0 hlen
      have hx := HC.out 0 hlen
      rw [Nat.add_zero, hS] at hx
      clear hS
      have hl1 : (0 : Int) < (L.length : Int) := by omega
      go_enter Tryz.func25, Tryz.ntmps25
      go_wp2_with fail
      all_goals first
        | (exfalso; omega)
        | (go_ret2; rw [HF.out]; exact ⟨rfl, hb⟩)
  · obtain ⟨q, rfl⟩ : ∃ q : Nat, pick = (q : Int) := ⟨pick.toNat, by omega⟩
    have hkq : k = q := by rw [← hk]; omega
    subst hkq
    cases sy
    · obtain ⟨r, hr⟩ : ∃ r, k % M = r := ⟨_, rfl⟩
      have Er : (k : Int) % (M : Int) = (r : Int) := by omega
      have Et : (k : Int).tmod (M : Int) = (r : Int) := by rw [Int.tmod_eq_emod_of_nonneg (by omega)]; exact Er
      have hrM : r < M := by rw [← hr]; exact Nat.mod_lt _ (by omega)
      by_cases hr0 : r = 0
      · have HF : Hid (foundF (L, false) (k : Int) = none) := by
          show _ = _
          unfold foundF
          rw [if_neg Bool.false_ne_true, hk]
          show (if k % (L.length + 1) = 0 then _ else _) = _
          rw [hM, hr, if_pos hr0]
        subst hr0
        have Er0 : (k : Int) % (M : Int) = 0 := Er
        have Et0 : (k : Int).tmod (M : Int) = 0 := Et
        go_enter Tryz.func25, Tryz.ntmps25
        go_wp2_with fail
        all_goals first
          | (exfalso; omega)
          | (go_ret2; rw [HF.out]; exact ⟨rfl, hb⟩)
      · obtain ⟨j, hj⟩ : ∃ j, r - 1 = j := ⟨_, rfl⟩
        have hjL : j < L.length := by omega
        obtain ⟨S, hS⟩ : ∃ S, L.getD j ByteArray.empty = S := ⟨_, rfl⟩
        have HF : Hid (foundF (L, false) (k : Int) = some S) := by
          show _ = _
          unfold foundF
          rw [if_neg Bool.false_ne_true, hk]
          show (if k % (L.length + 1) = 0 then _ else _) = _
          rw [hM, hr, if_neg hr0]
          rw [hj, ← hS]
          exact HG.out j hjL
        have hx := HC.out j hjL
        rw [hS] at hx
        clear hS
        have W1 : wrap64 ((r : Int) - 1) = (j : Int) := by rw [IntWalk.wrap64_in _ (by omega)]; omega
        have W2 : IntKind.i64.wrap ((r : Int) - 1) = (j : Int) := by rw [IntWalk.i64_in _ (by omega)]; omega
        have E1 : (r : Int) - 1 = (j : Int) := by omega
        have j1 : (j : Int) < (L.length : Int) := by omega
        have j0 : (0 : Int) ≤ (j : Int) := by omega
        go_enter Tryz.func25, Tryz.ntmps25
        go_wp2_with fail
        all_goals first
          | (exfalso; omega)
          | (go_ret2; rw [HF.out]; exact ⟨rfl, hb⟩)
    · obtain ⟨r, hr⟩ : ∃ r, k % L.length = r := ⟨_, rfl⟩
      have Er : (k : Int) % (L.length : Int) = (r : Int) := by omega
      have Et : (k : Int).tmod (L.length : Int) = (r : Int) := by rw [Int.tmod_eq_emod_of_nonneg (by omega)]; exact Er
      have hrL : r < L.length := by rw [← hr]; exact Nat.mod_lt _ hlen
      obtain ⟨S, hS⟩ : ∃ S, L.getD r ByteArray.empty = S := ⟨_, rfl⟩
      have HF : Hid (foundF (L, true) (k : Int) = some S) := by
        show _ = _
        unfold foundF
        rw [if_pos rfl, hk]
        show L[k % L.length]? = _
        rw [hr, ← hS]
        exact HG.out r hrL
      have hx := HC.out r hrL
      rw [hS] at hx
      clear hS
      have j1 : (r : Int) < (L.length : Int) := by omega
      have j0 : (0 : Int) ≤ (r : Int) := by omega
      go_enter Tryz.func25, Tryz.ntmps25
      go_wp2_with fail
      all_goals first
        | (exfalso; omega)
        | (go_ret2; rw [HF.out]; exact ⟨rfl, hb⟩)
end Go.Proofs.YtcpkpljeimbdiaaGreat.K
namespace Go.Proofs.YtcpkpljeimbdiaaGreat.K
open Go.RowKit Go.Maps
open Aid
set_option linter.unusedSimpArgs false
set_option linter.unusedVariables false

theorem AreaIs.new (w : World) : AreaIs (fun k => k = w.heap.size) (w.alloc (.map #[] 0)) w.heap.size (fun _ => none) 0 :=
  ⟨fun _ => none, MapF.made (P := Tryz.prog) (k := 3) (q := .i64) Tryz.underlying3 w, fun x => ⟨fun _ => rfl, fun s hs => (nomatch hs)⟩⟩
def updS (F : Int → Option Sec) (n : Int) (s : Option Sec) : Int → Option Sec := fun y => if y = n then s else F y
theorem AreaIs.put {O : Nat → Prop} {w : World} {g c : Nat} {F : Int → Option Sec} (h : AreaIs O w g F c) (og : O g) {n : Int} (hn : (Lit.int .i64 n).wf = true) (hc : c < maxLen) (hF : F n = none)
    {v : Value} {L : List ByteArray} {s : Bool} (hv : Vers O w v L) (hL : L ≠ []) :
    ∃ w', (Instr.mapUpdate 62 (.map (some g)) (.int .i64 n) (.agg #[v, .bool s])).run Tryz.prog w = .ok () w' ∧ AreaIs O w' g (updS F n (some (L, s))) (c + 1) ∧ Keeps (fun k => k = g) w w' ∧ w'.heap.size = w.heap.size := by
  obtain ⟨S, hS, hf⟩ := h
  obtain ⟨w', hrun, hS', ht⟩ := hS.store Tryz.underlying3 Tryz.underlying62 hc hn (.agg #[v, .bool s])
  have hnone : S n = none := (hf n).1 hF
  rw [hnone] at hS'
  refine ⟨w', hrun, ⟨upd S n (some (.agg #[v, .bool s])), hS', fun y => ?_⟩, turned_keeps ht rfl, turned_size ht⟩
  unfold updS upd
  by_cases hy : y = n
  · subst hy
    simp only [if_true]
    refine ⟨fun hh => (by cases hh), fun s' hs' => ?_⟩
    obtain rfl := Option.some.inj hs'
    exact ⟨v, rfl, hv.turned ht, hL⟩
  · simp only [hy, if_false]
    refine ⟨(hf y).1, fun s' hs' => ?_⟩
    obtain ⟨v', e1, e2, e3⟩ := (hf y).2 s' hs'
    exact ⟨v', e1, e2.turned ht, e3⟩
/-- an area is laid, with its sectors -/
def layA (st : DSt) (a : Int) (F : Int → Option Sec) (c : Nat) : DSt := { st with F := fun y => if y = a then F else st.F y, N := updN st.N a c, A := updA st.A a true, C := st.C + 1 }
theorem DiskIn.attach {O Q : Nat → Prop} {w : World} {p m gl c : Nat} {G : Int → Option Nat} {st : DSt} {F : Int → Option Sec} (h : DiskIn O w p m G st) {a : Int} (hg : G a = none) (ha : (Lit.int .u64 a).wf = true) (hc : st.C < maxLen)
    (hA : AreaIs Q w gl F c) (hq : Q gl) (hd : ∀ k, Q k → ¬ O k) (hgm : gl ≠ m) :
    ∃ w', (Instr.mapUpdate 45 (.map (some m)) (.int .u64 a) (.map (some gl))).run Tryz.prog w = .ok () w' ∧
      DiskIn (fun k => O k ∨ Q k) w' p m (fun x => if x = a then some gl else G x) (layA st a F c) ∧ Keeps (fun k => k = m) w w' ∧ w'.heap.size = w.heap.size := by
  obtain ⟨w', hrun, hM, ht⟩ := h.outer.store Tryz.underlying37 Tryz.underlying45 hc ha (.map (some gl))
  refine ⟨w', hrun, ⟨blk_turned h.blk ht, .inl h.op, .inl h.om, ?_, fun x q hx => ?_, fun x y q hx hy => ?_, fun x hx => ?_, fun x => ?_⟩, turned_keeps ht rfl, turned_size ht⟩
  · have e1 : ((fun a => (G a).map fun g => Value.map (some g)) a).isSome = false := by simp [hg]
    rw [e1] at hM
    have e2 : upd (fun a => (G a).map fun g => Value.map (some g)) a (some (.map (some gl))) = fun x => ((if x = a then some gl else G x)).map fun g => Value.map (some g) := by
      funext x; unfold upd; by_cases hx : x = a <;> simp [hx]
    rw [e2] at hM
    exact hM
  · by_cases hxa : x = a
    · subst hxa
      simp only [if_true] at hx
      obtain rfl := Option.some.inj hx
      refine ⟨.inr hq, hgm, ?_⟩
      obtain ⟨S, hS, hf⟩ := hA
      refine ⟨S, ?_, fun y => ?_⟩
      · have e : (layA st x F c).N x = c := by simp [layA, updN]
        rw [e]; exact hS.kept (turned_block ht hgm)
      · have e : (layA st x F c).F x y = F y := by simp [layA]
        rw [e]
        refine ⟨(hf y).1, fun s hs => ?_⟩
        obtain ⟨v', e1, e2, e3⟩ := (hf y).2 s hs
        exact ⟨v', e1, (e2.turned ht).mono (fun k hk => .inr hk), e3⟩
    · simp only [hxa, if_false] at hx
      obtain ⟨oq, qm, S, hS, hf⟩ := h.inner x q hx
      refine ⟨.inl oq, qm, S, ?_, fun y => ?_⟩
      · have e : (layA st a F c).N x = st.N x := by simp [layA, updN, hxa]
        rw [e]; exact hS.kept (turned_block ht qm)
      · have e : (layA st a F c).F x y = st.F x y := by simp [layA, hxa]
        rw [e]
        refine ⟨(hf y).1, fun s hs => ?_⟩
        obtain ⟨v', e1, e2, e3⟩ := (hf y).2 s hs
        exact ⟨v', e1, (e2.turned ht).mono (fun k hk => .inl hk), e3⟩
  · by_cases e1 : x = a
    · by_cases e2 : y = a
      · rw [e1, e2]
      · simp only [e1, if_true] at hx
        simp only [e2, if_false] at hy
        obtain rfl := Option.some.inj hx
        exact absurd (h.inner y _ hy).1 (hd _ hq)
    · simp only [e1, if_false] at hx
      by_cases e2 : y = a
      · simp only [e2, if_true] at hy
        obtain rfl := Option.some.inj hy
        exact absurd (h.inner x _ hx).1 (hd _ hq)
      · simp only [e2, if_false] at hy
        exact h.inj x y q hx hy
  · by_cases e1 : x = a
    · simp only [e1, if_true] at hx; cases hx
    · simp only [e1, if_false] at hx
      obtain ⟨z1, z2⟩ := h.empty x hx
      exact ⟨fun y => by simp [layA, e1, z1], by simp [layA, updN, e1, z2]⟩
  · show updA st.A a true x = _
    unfold updA
    by_cases e1 : x = a
    · simp [e1]
    · simp [e1]; exact h.present x

/-- what is found of some sectors -/
structure Cr where
  picks : List Int
  F : Int → Option Sec
  cnt : Nat
  miss : Nat
def useF (s : Sec) (ps : List Int) : Bool := !ps.isEmpty && (!s.2 || decide (1 < s.1.length))
def pickF (s : Sec) (ps : List Int) : Int := if useF s ps = true then ps.headD 0 else 0
def restF (s : Sec) (ps : List Int) : List Int := if useF s ps = true then ps.tail else ps
def crIn (Fa : Int → Option Sec) (c : Cr) (n : Int) : Cr := match Fa n with
  | none => c
  | some s => match foundF s (pickF s c.picks) with
    | some v => { picks := restF s c.picks, F := updS c.F n (some ([v], true)), cnt := c.cnt + 1, miss := c.miss }
    | none => { c with picks := restF s c.picks, miss := c.miss + 1 }
def crIns (Fa : Int → Option Sec) (Ns : List Int) (ps : List Int) : Cr := Ns.foldl (crIn Fa) ⟨ps, fun _ => none, 0, 0⟩
def roomF (st : DSt) (k : Nat) : DSt := { st with room := st.room + k }
def crOut (st : DSt) (Ns : Int → List Int) (x : List Int × DSt) (a : Int) : List Int × DSt :=
  let c := crIns (st.F a) (Ns a) x.1
  (c.picks, if c.cnt = 0 then roomF x.2 c.miss else layA (roomF x.2 c.miss) a c.F c.cnt)
def crashF (st : DSt) (As : List Int) (Ns : Int → List Int) (ps : List Int) : List Int × DSt := As.foldl (crOut st Ns) (ps, newSt st.room)
/-- the sectors of an area, each once -/
def SecsOf (st : DSt) (a : Int) (xs : List Int) : Prop := xs.Nodup ∧ (∀ x ∈ xs, (Lit.int .i64 x).wf = true) ∧ ∀ x, (Lit.int .i64 x).wf = true → (x ∈ xs ↔ (st.F a x).isSome = true)
end Go.Proofs.YtcpkpljeimbdiaaGreat.K
namespace Go.Proofs.YtcpkpljeimbdiaaGreat.K
open Go.RowKit Go.Maps
open Aid
set_option linter.unusedSimpArgs false
set_option linter.unusedVariables false

theorem srt_perm {l m : List Int} (h : l.Perm m) : QI.srt l = QI.srt m := by
  unfold QI.srt
  refine List.Perm.eq_of_pairwise (le := fun a b : Int => a ≤ b) (fun a b _ _ h1 h2 => Int.le_antisymm h1 h2) ?_ ?_ ?_
  · have := List.pairwise_mergeSort (le := fun a b : Int => decide (a ≤ b)) (fun a b c h1 h2 => by simp at *; omega) (fun a b => by simp; omega) l
    exact this.imp (fun h => of_decide_eq_true h)
  · have := List.pairwise_mergeSort (le := fun a b : Int => decide (a ≤ b)) (fun a b c h1 h2 => by simp at *; omega) (fun a b => by simp; omega) m
    exact this.imp (fun h => of_decide_eq_true h)
  · exact ((List.mergeSort_perm _ _).trans h).trans (List.mergeSort_perm _ _).symm
theorem srt_mem {l : List Int} {x : Int} : x ∈ QI.srt l ↔ x ∈ l := (List.mergeSort_perm l _).mem_iff
theorem srt_nodup {l : List Int} (h : l.Nodup) : (QI.srt l).Nodup := (List.mergeSort_perm l _).nodup_iff.2 h
theorem perm_of {l m : List Int} (hl : l.Nodup) (hm : m.Nodup) (h : ∀ x, x ∈ l ↔ x ∈ m) : l.Perm m := (List.perm_ext_iff_of_nodup hl hm).2 h
theorem srtU_eq (l : List Int) : QU.srt l = QI.srt l := rfl
open Classical in
noncomputable def areasL (st : DSt) : List Int := if h : ∃ xs, AreasOf st xs then QI.srt h.choose else []
open Classical in
noncomputable def secsL (st : DSt) (a : Int) : List Int := if h : ∃ xs, SecsOf st a xs then QI.srt h.choose else []
theorem areas_same {st : DSt} {xs ys : List Int} (h : AreasOf st xs) (k : AreasOf st ys) : QI.srt xs = QI.srt ys := by
  refine srt_perm (perm_of h.1 k.1 fun x => ?_)
  by_cases hx : (Lit.int .u64 x).wf = true
  · rw [h.2.2 x hx, k.2.2 x hx]
  · exact ⟨fun e => absurd (h.2.1 x e) hx, fun e => absurd (k.2.1 x e) hx⟩
theorem secs_same {st : DSt} {a : Int} {xs ys : List Int} (h : SecsOf st a xs) (k : SecsOf st a ys) : QI.srt xs = QI.srt ys := by
  refine srt_perm (perm_of h.1 k.1 fun x => ?_)
  by_cases hx : (Lit.int .i64 x).wf = true
  · rw [h.2.2 x hx, k.2.2 x hx]
  · exact ⟨fun e => absurd (h.2.1 x e) hx, fun e => absurd (k.2.1 x e) hx⟩
theorem areasL_eq {st : DSt} {xs : List Int} (h : AreasOf st xs) : QI.srt xs = areasL st := by
  unfold areasL
  have hex : ∃ xs, AreasOf st xs := ⟨xs, h⟩
  rw [dif_pos hex]
  exact areas_same h hex.choose_spec
theorem secsL_eq {st : DSt} {a : Int} {xs : List Int} (h : SecsOf st a xs) : QI.srt xs = secsL st a := by
  unfold secsL
  have hex : ∃ xs, SecsOf st a xs := ⟨xs, h⟩
  rw [dif_pos hex]
  exact secs_same h hex.choose_spec
end Go.Proofs.YtcpkpljeimbdiaaGreat.K
