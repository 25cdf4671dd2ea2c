/-
  DiskApartC + DskClone + RefApart + RefRead + RefStands + RefTell.
-/
import Derived.Test.YteidmneenfdafaaDskCrashM
import Derived.Test.YteidmneenfdafaaMapR
import Derived.Shelf.SlMaps.Clone
import Derived.Test.YteidmneenfdafaaRefRel
import Derived.Test.YteidmneenfdafaaRefC
import Derived.Test.YteidmneenfdafaaRefCr
import Derived.Test.YteidmneenfdafaaDskSect
import Derived.BigQuiet
import Derived.Test.YteidmneenfdafaaDskCrash
import Derived.Test.YteidmneenfdafaaDskFull
import Derived.Deep.RegionHeld3
import Derived.Deep.Slices
import Derived.Deep.CondSized
import Derived.Test.YteidmneenfdafaaShut
import Derived.JoinedCond
namespace Go.Proofs.Yteidmneenfdafaa.K
open Go.RowKit Go.Maps
open Aid
set_option linter.unusedSimpArgs false
set_option linter.unusedVariables false

set_option maxRecDepth 100000 in
set_option maxHeartbeats 1000000 in
theorem mclone_any (g : Nat) (es : Array MapEntry) (clock : Nat) (w : World) (hb : w.heap[g]? = some (.map es clock)) :
    Calls Try.prog 41 #[.map (some g)] w fun e w' => e = .returned (.map (some w.heap.size)) ∧ w' = w.alloc (.map es clock) := by
  have hq : ∀ w, (binOp .eql 68 (.map (some g)) (.map none)).run Try.prog w = .ok (.bool false) w := fun w => run_eql_map_nil_sl w 68 _ _ (some g) Try.underlying68
  go_enter Try.func41, Try.ntmps41
  go_wp2_with fail
  rw [run_callFunc_extern Try.func51 (by kernel_rfl) (by kernel_rfl) (by kernel_rfl) (e := Extern.MapsClone.clone) (by kernel_rfl), run_maps_clone_sl w 68 hb]
  simp only [Result.andThen]
  rw [Oper.upon_value]
  go_wp2_with fail
  rw [run_typeAssert_map_sl _ 68 20 _ _ _ Try.underlying68]
  simp only [Result.andThen]
  rw [Oper.upon_value]
  go_wp2_with fail
  go_ret
  exact ⟨rfl, rfl⟩
/-- under way: who is left is not there yet -/
def clonF (st : DSt) (left : Lit → Bool) (k : Nat) : DSt :=
  { st with F := fun a x => if left (.int .u64 a) = true then none else st.F a x, N := fun a => if left (.int .u64 a) = true then 0 else st.N a, A := fun a => if left (.int .u64 a) = true then false else st.A a, C := k }
theorem clon_all (st : DSt) (k : Nat) : clonF st (fun _ => false) k = { st with C := k } := rfl
theorem clon_next {st : DSt} {left : Lit → Bool} {a : Int} {k : Nat} (hA : st.A a = true) : layA (clonF st left k) a (st.F a) (st.N a) = clonF st (fun z => left z && !z.sameKey (.int .u64 a)) (k + 1) := by
  have hs : ∀ y, (Lit.int .u64 y).sameKey (.int .u64 a) = decide (y = a) := fun y => by
    by_cases h : y = a
    · subst h; rw [WideAt.sameKey_self (keyLit_int y)]; simp
    · cases hh : (Lit.int .u64 y).sameKey (.int .u64 a) with
      | false => simp [h]
      | true => exact absurd (WideAt.sameKey_eq hh) (key_int h)
  have h1 : (layA (clonF st left k) a (st.F a) (st.N a)).F = (clonF st (fun z => left z && !z.sameKey (.int .u64 a)) (k + 1)).F := by
    funext y
    show (if y = a then st.F a else fun x => if left (.int .u64 y) = true then none else st.F y x) = fun x => if (left (.int .u64 y) && !(Lit.int .u64 y).sameKey (.int .u64 a)) = true then none else st.F y x
    rw [hs]
    by_cases h : y = a
    · subst h; simp
    · simp [h]
  have h2 : (layA (clonF st left k) a (st.F a) (st.N a)).N = (clonF st (fun z => left z && !z.sameKey (.int .u64 a)) (k + 1)).N := by
    funext y
    show (if y = a then st.N a else if left (.int .u64 y) = true then 0 else st.N y) = if (left (.int .u64 y) && !(Lit.int .u64 y).sameKey (.int .u64 a)) = true then 0 else st.N y
    rw [hs]
    by_cases h : y = a
    · subst h; simp
    · simp [h]
  have h3 : (layA (clonF st left k) a (st.F a) (st.N a)).A = (clonF st (fun z => left z && !z.sameKey (.int .u64 a)) (k + 1)).A := by
    funext y
    show (if y = a then true else if left (.int .u64 y) = true then false else st.A y) = if (left (.int .u64 y) && !(Lit.int .u64 y).sameKey (.int .u64 a)) = true then false else st.A y
    rw [hs]
    by_cases h : y = a
    · subst h; simp [hA]
    · simp [h]
  have e : layA (clonF st left k) a (st.F a) (st.N a) = { clonF st (fun z => left z && !z.sameKey (.int .u64 a)) (k + 1) with F := (layA (clonF st left k) a (st.F a) (st.N a)).F, N := (layA (clonF st left k) a (st.F a) (st.N a)).N, A := (layA (clonF st left k) a (st.F a) (st.N a)).A } := rfl
  rw [e, h1, h2, h3]
theorem MapF.copy {P : Program} {k : TypeId} {q : IntKind} {w w' : World} {b b' : Nat} {f : Int → Option Value} {c : Nat} (h : MapF P k q w b f c) (hb : w'.heap[b']? = w.heap[b]?) : MapF P k q w' b' f c := by
  obtain ⟨D, ⟨es, clock, h1, h2, h3, h4⟩, r⟩ := h
  exact ⟨D, ⟨es, clock, hb.trans h1, h2, h3, h4⟩, r⟩
/-- an area that is the same again, in a block of its own: its texts are shared -/
theorem AreaIs.copy {O : Nat → Prop} {w : World} {g : Nat} {F : Int → Option Sec} {n : Nat} (h : AreaIs O w g F n) : ∃ es clock, w.heap[g]? = some (.map es clock) ∧
    AreaIs (fun x => x = w.heap.size ∨ (O x ∧ StrRow w x)) (w.alloc (.map es clock)) w.heap.size F n := by
  obtain ⟨S, hS, hf⟩ := h
  obtain ⟨es, clock, hb⟩ : ∃ es clock, w.heap[g]? = some (.map es clock) := by
    obtain ⟨D, ⟨es, clock, h1, _⟩, _⟩ := hS
    exact ⟨es, clock, h1⟩
  have hal : Below w.heap.size w (w.alloc (.map es clock)) := (Below.refl _ _).alloc (Nat.le_refl _) _
  refine ⟨es, clock, hb, S, MapF.copy hS ((MapKept.heap_alloc w _).1.trans hb.symm), fun x => ⟨(hf x).1, fun s hs => ?_⟩⟩
  obtain ⟨v, e1, ⟨h0, a, cap, h1, h2, h3, h4⟩, e3⟩ := (hf x).2 s hs
  refine ⟨v, e1, ⟨h0, a, cap, h1, h2, h3, fun j hj => ?_⟩, e3⟩
  obtain ⟨b, o, i1, i2, i3, i4⟩ := h4 j hj
  exact ⟨b, o, i1, ⟨.inr i2, i2.2.of_eq (hal.block b i3)⟩, Nat.lt_of_lt_of_le i3 hal.size, (hal.cell (p := ⟨b, o + j, none⟩) i3).trans i4⟩
/-- an area is laid, whose texts may be another one's too -/
theorem DiskIn.attach2 {O Q : Nat → Prop} {w : World} {p m gl c : Nat} {G : Int → Option Nat} {st : DSt} {F : Int → Option Sec} (h : DiskIn O w p m G st) {a : Int} (hg : G a = none) (ha : (Lit.int .u64 a).wf = true) (hc : st.C < maxLen)
    (hA : AreaIs Q w gl F c) (hq : Q gl) (hd : ¬ O gl) (hgm : gl ≠ m) :
    ∃ w', (Instr.mapUpdate 61 (.map (some m)) (.int .u64 a) (.map (some gl))).run Try.prog w = .ok () w' ∧
      DiskIn (fun k => O k ∨ Q k) w' p m (fun x => if x = a then some gl else G x) (layA st a F c) ∧ Keeps (fun k => k = m) w w' ∧ w'.heap.size = w.heap.size := by
  obtain ⟨w', hrun, hM, ht⟩ := h.outer.store Try.underlying27 Try.underlying61 hc ha (.map (some gl))
  refine ⟨w', hrun, ⟨blk_turned h.blk ht, .inl h.op, .inl h.om, ?_, fun x q hx => ?_, fun x y q hx hy => ?_, fun x hx => ?_, fun x => ?_⟩, turned_keeps ht rfl, turned_size ht⟩
  · have e1 : ((fun a => (G a).map fun g => Value.map (some g)) a).isSome = false := by simp [hg]
    rw [e1] at hM
    have e2 : upd (fun a => (G a).map fun g => Value.map (some g)) a (some (.map (some gl))) = fun x => ((if x = a then some gl else G x)).map fun g => Value.map (some g) := by
      funext x; unfold upd; by_cases hx : x = a <;> simp [hx]
    rw [e2] at hM
    exact hM
  · by_cases hxa : x = a
    · subst hxa
      simp only [if_true] at hx
      obtain rfl := Option.some.inj hx
      refine ⟨.inr hq, hgm, ?_⟩
      obtain ⟨S, hS, hf⟩ := hA
      refine ⟨S, ?_, fun y => ?_⟩
      · have e : (layA st x F c).N x = c := by simp [layA, updN]
        rw [e]; exact hS.kept (turned_block ht hgm)
      · have e : (layA st x F c).F x y = F y := by simp [layA]
        rw [e]
        refine ⟨(hf y).1, fun s hs => ?_⟩
        obtain ⟨v', e1, e2, e3⟩ := (hf y).2 s hs
        exact ⟨v', e1, (e2.turned ht).mono (fun k hk => .inr hk), e3⟩
    · simp only [hxa, if_false] at hx
      obtain ⟨oq, qm, S, hS, hf⟩ := h.inner x q hx
      refine ⟨.inl oq, qm, S, ?_, fun y => ?_⟩
      · have e : (layA st a F c).N x = st.N x := by simp [layA, updN, hxa]
        rw [e]; exact hS.kept (turned_block ht qm)
      · have e : (layA st a F c).F x y = st.F x y := by simp [layA, hxa]
        rw [e]
        refine ⟨(hf y).1, fun s hs => ?_⟩
        obtain ⟨v', e1, e2, e3⟩ := (hf y).2 s hs
        exact ⟨v', e1, (e2.turned ht).mono (fun k hk => .inl hk), e3⟩
  · by_cases e1 : x = a
    · by_cases e2 : y = a
      · rw [e1, e2]
      · simp only [e1, if_true] at hx
        simp only [e2, if_false] at hy
        obtain rfl := Option.some.inj hx
        exact absurd (h.inner y _ hy).1 hd
    · simp only [e1, if_false] at hx
      by_cases e2 : y = a
      · simp only [e2, if_true] at hy
        obtain rfl := Option.some.inj hy
        exact absurd (h.inner x _ hx).1 hd
      · simp only [e2, if_false] at hy
        exact h.inj x y q hx hy
  · by_cases e1 : x = a
    · simp only [e1, if_true] at hx; cases hx
    · simp only [e1, if_false] at hx
      obtain ⟨z1, z2⟩ := h.empty x hx
      exact ⟨fun y => by simp [layA, e1, z1], by simp [layA, updN, e1, z2]⟩
  · show updA st.A a true x = _
    unfold updA
    by_cases e1 : x = a
    · simp [e1]
    · simp [e1]; exact h.present x

def CloneEnd (O : Nat → Prop) (st : DSt) (w : World) (e : Ending) (w' : World) : Prop :=
  ∃ c O' k, e = .returned (.pointer (some ⟨c, 0, none⟩)) ∧ DiskIs O' w' c { st with C := k } ∧ k ≤ st.C ∧ (∀ x, O' x → (w.heap.size ≤ x ∧ x < w'.heap.size) ∨ (O x ∧ StrRow w x)) ∧ Below w.heap.size w w'
/-- what the loop of Clone knows -/
structure ClIn (O : Nat → Prop) (w : World) (c M r : Nat) (st : DSt) (left : Lit → Bool) (k : Nat) (wr : World) : Prop where
  d : ∃ G', DiskIn (fun x => (w.heap.size ≤ x ∧ x < wr.heap.size ∧ x ≠ r) ∨ (O x ∧ StrRow w x)) wr c M G' (clonF st left k) ∧ ∀ a, left (.int .u64 a) = true → G' a = none
  below : Below w.heap.size w wr
  hc : w.heap.size ≤ c ∧ c < wr.heap.size
  hM : w.heap.size ≤ M ∧ M < wr.heap.size
set_option maxRecDepth 100000 in
set_option maxHeartbeats 4000000 in
theorem clone_any (O : Nat → Prop) (p : Nat) (st : DSt) (w : World) (h : DiskIs O w p st) (hO : ∀ k, O k → k < w.heap.size) (hwf : ∀ a, st.A a = true → (Lit.int .u64 a).wf = true) (hC : st.C ≤ 140737488355327) :
    Calls Try.prog 24 #[.pointer (some ⟨p, 0, none⟩)] w (CloneEnd O st w) := by
  obtain ⟨m, G, hD⟩ := h
  have hcs := Blk.cells hD.blk
  unfold diskV at hcs
  obtain ⟨c0, c1, c2, c3, c4⟩ := hD.cells
  have hmk : ∀ w : World, (Instr.makeMap 61 none).run Try.prog w = .ok (.map (some w.heap.size)) (w.alloc (.map #[] 0)) := fun w => rfl
  obtain ⟨C, hCq⟩ : ∃ C, w.heap.size = C := ⟨_, rfl⟩
  have HMK := Lib.hid hmk
  go_enter Try.func24, Try.ntmps24
  go_upto_region 3 with fail
  obtain ⟨W1, hW1⟩ : ∃ W1, (w.alloc (.cells #[.int .i64 st.room, .int .i64 st.steps, .map (some (C + 1)), .int .i64 st.left, .bool st.dead] 63)).alloc (.map #[] 0) = W1 := ⟨_, rfl⟩
  have hb1 : Below w.heap.size w W1 := by rw [← hW1]; exact ((Below.refl _ _).alloc (Nat.le_refl _) _).alloc (by simp) _
  have hz1 : W1.heap.size = C + 2 := by rw [← hW1, ← hCq]; simp
  have bC : Blk W1 C 63 #[.int .i64 st.room, .int .i64 st.steps, .map (some (C + 1)), .int .i64 st.left, .bool st.dead] := by
    rw [← hW1, ← hCq]; exact (Blk.alloc_new _ _ _).below ((Below.refl _ _).alloc (Nat.le_refl _) _) (by simp)
  have mM : MapF Try.prog 27 .u64 W1 (C + 1) (fun _ => none) 0 := by
    have := MapF.made (P := Try.prog) (k := 27) (q := .u64) Try.underlying27 (w.alloc (.cells #[.int .i64 st.room, .int .i64 st.steps, .map (some (C + 1)), .int .i64 st.left, .bool st.dead] 63))
    rw [show (w.alloc (.cells #[.int .i64 st.room, .int .i64 st.steps, .map (some (C + 1)), .int .i64 st.left, .bool st.dead] 63)).heap.size = C + 1 by simp [hCq], hW1] at this
    exact this
  have D1 : DiskIn O W1 p m G st := hD.keep (O' := fun _ => False) (Keeps.of_below hb1) (fun _ _ h => h)
  have hK1 := D1.outer
  obtain ⟨D0, hown0, hsz0, hfD0⟩ := hK1
  obtain ⟨w2, hrange, hr2, hg2, hs2⟩ := hown0.range (Maps.int_keyed Try.underlying27) Try.underlying61
  obtain ⟨r, hr⟩ : ∃ r, W1.heap.size = r := ⟨_, rfl⟩
  rw [hr] at hrange hr2 hs2
  have hb2 : Below W1.heap.size W1 w2 := ⟨hg2.os, hg2.tape, hg2.output, hg2.size, fun k hk => hg2.block k hk (by simp)⟩
  have hrC : r = C + 2 := by omega
  have k2 : W1.cell? ⟨p, 2, none⟩ = some (.map (some m)) := D1.cells.2.2.1
  have hhas : ∀ a g, G a = some g → Maps.has D0 (.int .u64 a) = true := fun a g hg => by
    have := (hfD0 a (hwf a (by rw [hD.present, hg]; rfl))).1
    simpa [hg] using this
  have hstart : ClIn O w C (C + 1) r st (Maps.has D0) 0 w2 := by
    have e1 : ∀ a x, (if Maps.has D0 (.int .u64 a) = true then none else st.F a x) = (none : Option Sec) := fun a x => by
      split
      · rfl
      · rename_i hh
        cases hg : G a with
        | none => exact (hD.empty a hg).1 x
        | some g =>
          exact absurd (hhas a g hg) hh
    have e2 : ∀ a, (if Maps.has D0 (.int .u64 a) = true then 0 else st.N a) = 0 := fun a => by
      split
      · rfl
      · rename_i hh
        cases hg : G a with
        | none => exact (hD.empty a hg).2
        | some g =>
          exact absurd (hhas a g hg) hh
    have e3 : ∀ a, (if Maps.has D0 (.int .u64 a) = true then false else st.A a) = false := fun a => by
      split
      · rfl
      · rename_i hh
        cases hA : st.A a with
        | false => rfl
        | true =>
          rw [hD.present] at hA
          cases hg : G a with
          | none => rw [hg] at hA; cases hA
          | some g => exact absurd (hhas a g hg) hh
    have hz2 := hb2.size
    refine ⟨⟨fun _ => none, ⟨bC.below hb2 bC.lt, .inl ⟨by omega, by omega, by omega⟩, .inl ⟨by omega, by omega, by omega⟩, ?_, fun a g hg => by (cases hg), fun a a' g hg => by (cases hg), fun a _ => ⟨fun x => e1 a x, e2 a⟩, fun a => e3 a⟩, fun _ _ => rfl⟩, hb1.trans (hb2.mono hb1.size), ⟨by omega, by omega⟩, ⟨by omega, by omega⟩⟩
    exact mM.kept (hb2.block _ (by omega))
  have HSTART := Lib.hid hstart
  have HR2 := Lib.hid hr2
  have HG := Lib.hid (fun a => (hfD0 a))
  have HDD := Lib.hid hD
  rw [hW1]
  have hps : p < w.heap.size := hO p hD.op
  have hms : m < w.heap.size := hO m hD.om
  have HSZ := Lib.hid hsz0
  have HRC := Lib.hid hrC
  have HCQ := Lib.hid hCq
  clear hrC hCq hz1 hsz0 hstart hmk hcs hW1 hb1 bC mM D1 hown0 hhas hfD0 hD hb2 hr2 hg2 c0 c1 c2 c3 c4 hr hs2
  go_wp2_with fail
  go_loopw [4, 5] (fun x4 x5 wr => ∃ (left : Lit → Bool) (cnt k : Nat), wr.ranges Try.prog 27 rid m r st.C D0 left cnt ∧ Hid (ClIn O w C (C + 1) r st left k wr) ∧ k + cnt ≤ st.C ∧ Hid (∀ a, (Lit.int .u64 a).wf = true → left (.int .u64 a) = true → ∃ g, G a = some g)) (fun _ _ wr => wr.rangeLeft m r)
  case atStart => exact ⟨_, _, 0, HR2.out, HSTART, by have := HSZ.out; omega, Lib.hid (fun a ha hl => by
    have := (HG.out a ha).1
    rw [hl] at this
    cases hg : G a with
    | none => simp [hg] at this
    | some g => exact ⟨g, rfl⟩)⟩
  case round =>
    obtain ⟨left, cnt, k, hrg, HCL, hkc, HL⟩ := hrel
    clear HSTART HR2 hrange k2
    rcases hrg.next (Maps.int_keyed Try.underlying27) 0 with ⟨hc0, hno, hnx⟩ | ⟨key, v, kl, y, w3, cnt', hkey, hlk, hry, hat, hnx, hrg3, hcl, hg3, hs3, hen⟩
    · have HNO := Lib.hid hno
      have HC0 := Lib.hid hc0
      clear hno hc0 hrg
      go_wp2_with fail
      go_ret
      have eL : left = fun _ => false := funext HNO.out
      have hcl := HCL.out
      rw [eL] at hcl
      obtain ⟨⟨G', hd, _⟩, hb, _, _⟩ := hcl
      exact ⟨C, _, k, rfl, ⟨_, G', hd⟩, by omega, fun x hx => hx.elim (fun h => .inl ⟨h.1, h.2.1⟩) .inr, hb⟩
    · obtain ⟨a, rfl, rfl, hxw⟩ := Maps.keyOf_int_inv Try.underlying27 hkey
      obtain ⟨g, hg⟩ := HL.out a hxw hlk
      have hv : v = .map (some g) := by
        have h1 := (HG.out a hxw).2 (.bool true)
        rw [hat] at h1
        simp [rid] at hry
        rw [← hry] at h1
        simpa [hg] using h1
      subst hv
      have hcl0 := HCL.out
      have hb0 := hcl0.below
      have hz0 := hb0.size
      have hMC := hcl0.hM
      have hCC := hcl0.hc
      have hrl := hrg.lt
      have hml := hrg.owns.lt
      have hrC := HRC.out
      have hCq := HCQ.out
      have hb03 : Below w.heap.size w w3 := ⟨hg3.os.trans hb0.os, hg3.tape.trans hb0.tape, hg3.output.trans hb0.output, Nat.le_trans hz0 hg3.size, fun x hx => (hg3.block x (by omega) (fun e => by simp only [Option.some.injEq] at e; omega)).trans (hb0.block x hx)⟩
      have hAa : st.A a = true := by rw [HDD.out.present, hg]; rfl
      have D3 : DiskIn O w3.drew p m G st := (HDD.out.keep (O' := fun _ => False) (Keeps.of_below hb03) (fun _ _ h => h)).keep (O' := fun _ => False) (Keeps.of_below ((Below.refl _ _).drew)) (fun _ _ h => h)
      obtain ⟨og, gm, harea⟩ := D3.inner a g hg
      obtain ⟨es, clock, hes, hac⟩ := harea.copy
      obtain ⟨gl, hgl⟩ : ∃ gl, w3.drew.heap.size = gl := ⟨_, rfl⟩
      rw [hgl] at hac
      have hglw : gl = wr.heap.size := by rw [← hgl]; exact hs3
      have K3 : Keeps (fun k => k = r) wr w3 := ⟨hg3.os, hg3.tape, hg3.output, hg3.size, fun k hk hn => hg3.block k hk (by simpa using hn), fun k hk => hg3.block k hk.lt (fun e => by obtain ⟨cs, fr, h5⟩ := hk; simp only [Option.some.injEq] at e; rw [e] at h5; exact ranges_iter hrg h5)⟩
      obtain ⟨G', hdc, hG'⟩ := hcl0.d
      have hd3 := hdc.keep K3 (fun k hk e => by
        have e' : k = r := e
        rcases hk with h | h
        · exact h.2.2 e'
        · have := hO k h.1; omega)
      have sc3 : w3.drew.cell? ⟨C, 2, none⟩ = some (.map (some (C + 1))) := hd3.cells.2.2.1
      obtain ⟨W4, hW4⟩ : ∃ W4, w3.drew.alloc (.map es clock) = W4 := ⟨_, rfl⟩
      have hb34 : Below w3.heap.size w3 W4 := by rw [← hW4]; exact ((Below.refl _ _).drew).alloc (Nat.le_refl _) _
      have hz4 : W4.heap.size = gl + 1 := by rw [← hW4, ← hgl]; simp
      have hd4 := hd3.keep (O' := fun _ => False) (Keeps.of_below hb34) (fun _ _ h => h)
      rw [hW4] at hac
      obtain ⟨w5, hrun5, D5, K5, hz5⟩ := hd4.attach2 (hG' a hlk) hxw (by show k < maxLen; unfold maxLen; omega) hac (.inl rfl) (fun hh => by
        rcases hh with h | h
        · omega
        · have := hO gl h.1; omega) (by omega)
      rw [clon_next hAa] at D5
      have sc4 : W4.cell? ⟨C, 2, none⟩ = some (.map (some (C + 1))) := hd4.cells.2.2.1
      have sc5 : w5.cell? ⟨C, 2, none⟩ = some (.map (some (C + 1))) := D5.cells.2.2.1
      have HES := Lib.hid hes
      have HW4 := Lib.hid hW4
      have HGL := Lib.hid hgl
      have hgl3 : w3.heap.size = gl := hgl
      have hrg5 : w5.ranges Try.prog 27 rid m r st.C D0 (fun x => left x && !x.sameKey (.int .u64 a)) cnt' := hrg3.kept (row := some (C + 1)) ⟨K5.os.trans hb34.os, K5.tape.trans hb34.tape, K5.output.trans hb34.output, Nat.le_trans hb34.size K5.size, fun x hx hn => (K5.block x (Nat.lt_of_lt_of_le hx hb34.size) (fun e => hn (by rw [show x = C + 1 from e]))).trans (hb34.block x hx)⟩ (by simp; omega) (by simp; omega)
      have hend : ClIn O w C (C + 1) r st (fun x => left x && !x.sameKey (.int .u64 a)) (k + 1) w5 := by
        have hb05 : Below w.heap.size w w5 := K5.below (hb03.trans (hb34.mono hb03.size)) (by have := hb34.size; have := hb03.size; omega) (fun x hx => by have : x = C + 1 := hx; omega)
        refine ⟨⟨_, D5.mono (fun x hx => ?_), fun a' ha' => ?_⟩, hb05, ⟨by omega, by omega⟩, ⟨by omega, by omega⟩⟩
        · rcases hx with (h | h) | (h | h)
          · exact .inl ⟨h.1, by omega, h.2.2⟩
          · exact .inr h
          · exact .inl ⟨by omega, by omega, by omega⟩
          · exact .inr ⟨h.1, h.2.of_eq (hb03.block x (hO x h.1)).symm⟩
        · show (if a' = a then some gl else G' a') = none
          by_cases e : a' = a
          · subst e
            rw [WideAt.sameKey_self (keyLit_int a')] at ha'
            simp at ha'
          · rw [if_neg e]
            simp at ha'
            exact hG' a' ha'.1
      have HEND := Lib.hid hend
      have HRG5 := Lib.hid hrg5
      have HRG := Lib.hid hrg
      have HCLT := Lib.hid hcl
      clear hend hrg5 hrg hrg3 D5 K5 hd4 hd3 hdc hG' K3 hac harea D3 og gm hb03 hb34 hz4 hz5 hcl0 hb0 hz0 hMC hCC hrl hml hrC hCq hgl hgl3 hglw hs3 hg3 hAa hes hW4 hxw hlk hat hry hkey hcl HCL hg
      go_wp2_with fail
      refine wp_region_noPanic ?_
      refine wp_region_held_drew (S := fun w' => w'.cell? ⟨C, 2, none⟩ = some (.map (some (C + 1)))) (by kernel_rfl) sc3 (fun hHeld => ?_)
      refine wpAnyH_take (i := 0) (v := .pointer (some ⟨C, 2, none⟩)) rfl (by kernel_rfl) (by kernel_rfl) (by kernel_rfl) (fun _ _ _ h => h) (.inl ⟨by rfl, by intro w hSw; go_simp⟩) hHeld ?_
      simp only [Act.put, List.getElem_toArray, List.getElem_cons_succ, List.getElem_cons_zero, List.setIfInBounds_toArray, List.set_cons_zero, List.set_cons_succ]
      refine wpAnyH_take (i := 1) (v := .map (some (C + 1))) rfl (by kernel_rfl) (by kernel_rfl) (by kernel_rfl) (fun _ _ _ h => h) (.inl ⟨by rfl, by intro w hSw; have hx := hSw; go_simp⟩) hHeld ?_
      simp only [Act.put, List.getElem_toArray, List.getElem_cons_succ, List.getElem_cons_zero, List.setIfInBounds_toArray, List.set_cons_zero, List.set_cons_succ]
      refine wpAnyH_take (i := 2) (v := .int .u64 a) rfl (by kernel_rfl) (by kernel_rfl) (by kernel_rfl) (fun _ _ _ h => h) (.inl ⟨by rfl, by intro w hSw; go_simp⟩) hHeld ?_
      simp only [Act.put, List.getElem_toArray, List.getElem_cons_succ, List.getElem_cons_zero, List.setIfInBounds_toArray, List.set_cons_zero, List.set_cons_succ]
      refine wpAnyH_take (i := 3) (v := .map (some g)) rfl (by kernel_rfl) (by kernel_rfl) (by kernel_rfl) (fun _ _ _ h => h) (.inl ⟨by rfl, by intro w hSw; go_simp⟩) hHeld ?_
      simp only [Act.put, List.getElem_toArray, List.getElem_cons_succ, List.getElem_cons_zero, List.setIfInBounds_toArray, List.set_cons_zero, List.set_cons_succ]
      refine wpAnyH_ready (rs := [4]) (by kernel_rfl) (by simp) ?_
      refine AllReadyH.cons rfl (fun K hK => ?_) AllReadyH.nil
      go_simp
      (go_at_call 41; refine (mclone_any g es clock _ HES.out).mono ?_; rintro e w4 ⟨rfl, rfl⟩)
      try rw [HGL.out]
      try rw [HW4.out]
      try go_wp2_with fail
      refine hK.out _ _ sc4 (fun hHeld => ?_)
      clear hK K
      try simp only [Act.put, List.getElem_toArray, List.getElem_cons_succ, List.getElem_cons_zero, List.setIfInBounds_toArray, List.set_cons_zero, List.set_cons_succ]
      refine wpAnyH_ready (rs := [5]) (by kernel_rfl) (by simp) ?_
      refine AllReadyH.cons rfl (fun K hK => ?_) AllReadyH.nil
      go_simp
      refine hK.out _ _ sc5 (fun hHeld => ?_)
      clear hK K
      refine wpAnyH_done (by kernel_rfl) ?_ _
      refine NoPanic.normal ?_
      go_wp2_with fail
      refine ⟨⟨_, _, k + 1, HRG5.out, HEND, by have := HCLT.out; omega, Lib.hid (fun z hz hzz => ?_)⟩, ?_⟩
      · simp at hzz
        exact HL.out z hz hzz.1
      · rw [HRG5.out.left_eq, HRG.out.left_eq]; exact HCLT.out
end Go.Proofs.Yteidmneenfdafaa.K
namespace Go.Proofs.Yteidmneenfdafaa.R
open Go.RowKit
open Aid K
set_option linter.unusedSimpArgs false
set_option linter.unusedVariables false

set_option maxRecDepth 100000 in
set_option maxHeartbeats 2000000 in
theorem rread_any (r : RSt) (v : Value) (q : List (RSec × Value)) (a n : Int) (w : World) (h : RDisk w v r q) (hs : Srt r.l) :
    Calls Try.prog 35 #[.agg (diskR r v), .int .u64 a, .int .i64 n] w fun e w' => e = .returned (.tuple #[.string (((findR r.l a n).map fun s => s.1.getLastD ByteArray.empty).getD ByteArray.empty), .bool (findR r.l a n).isSome]) ∧ Below w.heap.size w w' := by
  have hlen := h.1.len
  obtain ⟨av, cv, rfl⟩ := h.1.slice
  obtain ⟨room, steps, left, armed, dead, l⟩ := r
  have hql : q.map (·.1) = l := h.2
  unfold diskR
  dsimp only at hs ⊢
  obtain ⟨W1, hW1⟩ : ∃ W1, w.alloc (.cells #[.int .i64 room, .int .i64 steps, .int .i64 left, .bool armed, .bool dead, .slice av q.length cv] 40) = W1 := ⟨_, rfl⟩
  obtain ⟨B, hB⟩ : ∃ B, w.heap.size = B := ⟨_, rfl⟩
  have hb1 : Below w.heap.size w W1 := by rw [← hW1]; exact (Below.refl _ _).alloc (Nat.le_refl _) _
  have h1 := h.1.below hb1
  have hblk : Blk W1 B 40 #[.int .i64 room, .int .i64 steps, .int .i64 left, .bool armed, .bool dead, .slice av q.length cv] := by rw [← hW1, ← hB]; exact Blk.alloc_new _ _ _
  obtain ⟨c0, c1, c2, c3, c4, c5⟩ := blk6 hblk
  have hat := rat_any ⟨room, steps, left, armed, dead, l⟩ (.slice av q.length cv) q a n W1 h1
  unfold diskR at hat
  dsimp only at hat
  have HB1 := Lib.hid hb1
  have H1 := Lib.hid h1
  have HAT := Lib.hid hat
  have HBK := Lib.hid hblk
  have HQL := Lib.hid hql
  have HSRT := Lib.hid hs
  clear h hb1 h1 hat hblk hql hs
  obtain ⟨S, hS⟩ : ∃ S, ((findR l a n).map fun s => s.1.getLastD ByteArray.empty).getD ByteArray.empty = S := ⟨_, rfl⟩
  obtain ⟨I, hI⟩ : ∃ I, (findR l a n).isSome = I := ⟨_, rfl⟩
  rw [hS, hI]
  have HS := Lib.hid hS
  have HI := Lib.hid hI
  clear hS hI
  go_enter Try.func35, Try.ntmps35
  go_wp2_with fail
  try rw [hB]
  try rw [hW1]
  refine HAT.out.mono ?_
  rintro e w2 ⟨x, rfl, hx, hb2⟩
  have hbw := HB1.out.trans (hb2.mono HB1.out.size)
  have HBW := Lib.hid hbw
  have bB2 := HBK.out.below hb2 (Blk.lt HBK.out)
  obtain ⟨d0, d1, d2, d3, d4, d5⟩ := blk6 bB2
  have H2 := Lib.hid (H1.out.below hb2)
  clear hb2 hbw bB2 HBK c0 c1 c2 c3 c4 c5 HAT
  rcases hx with ⟨rfl, hno⟩ | ⟨i, s, hs, rfl, ha, hn⟩
  · have hf : findR l a n = none := find_none.2 fun s hs => by
      rw [← HQL.out] at hs
      obtain ⟨y, hy, rfl⟩ := List.mem_map.1 hs
      exact hno y hy
    obtain rfl : I = false := by rw [← HI.out, hf]; rfl
    obtain rfl : S = ByteArray.empty := by rw [← HS.out, hf]; rfl
    clear hno hf
    go_wp2_with fail
    go_ret2
    exact ⟨rfl, HBW.out⟩
  · have hm : s.1 ∈ l := by rw [← HQL.out]; exact List.mem_map.2 ⟨s, List.mem_of_getElem? hs, rfl⟩
    have hf := find_mem HSRT.out hm
    rw [ha, hn] at hf
    obtain rfl : I = true := by rw [← HI.out, hf]; rfl
    have hSe : S = s.1.L.getLastD ByteArray.empty := by rw [← HS.out, hf]; rfl
    have hi : i < q.length := (List.getElem?_eq_some_iff.1 hs).1
    have hsec := H2.out.secs s (List.mem_of_getElem? hs)
    obtain ⟨g, rfl, hg, k0, k1, k2, k3⟩ := H2.out.at_ hs
    have hla := rlast_any s.1 s.2 w2 hsec
    obtain ⟨⟨_, xa, xc, hxu, _⟩, _⟩ := hsec
    rw [hxu] at k2
    obtain ⟨X, hX⟩ : ∃ X, s.1.area = X := ⟨_, rfl⟩
    obtain ⟨Y, hY⟩ : ∃ Y, s.1.n = Y := ⟨_, rfl⟩
    obtain ⟨Z, hZ⟩ : ∃ Z, s.1.sync = Z := ⟨_, rfl⟩
    obtain ⟨xn, hxn⟩ : ∃ xn, s.1.L.length = xn := ⟨_, rfl⟩
    have hsr : secR s.1 s.2 = #[.int .u64 X, .int .i64 Y, .slice xa xn xc, .bool Z] := by rw [← hX, ← hY, ← hZ, ← hxn, ← hxu]; rfl
    rw [hX] at k0
    rw [hY] at k1
    rw [hxn] at k2
    rw [hZ] at k3
    rw [hsr, ← hSe] at hla
    have i0 : (0 : Int) ≤ (i : Int) := by omega
    have HLA := Lib.hid hla
    clear hm hf hSe hla hX hY hZ hxn hsr hxu hs ha hn
    go_wp2_with fail
    refine HLA.out.mono ?_
    rintro e w3 ⟨rfl, hb3⟩
    have hbf := HBW.out.trans (hb3.mono HBW.out.size)
    clear hb3
    go_wp2_with fail
    go_ret2
    exact ⟨rfl, hbf⟩
end Go.Proofs.Yteidmneenfdafaa.R
namespace Go.Proofs.Yteidmneenfdafaa.R
open Go.RowKit
open Aid K
set_option linter.unusedSimpArgs false
set_option linter.unusedVariables false

/-- one more than the last of an area -/
def sectF (a : Int) (K : Int) (s : RSec) : Int := if s.area = a then s.n + 1 else K
def sectR (l : List RSec) (a : Int) : Int := l.foldl (sectF a) 0
theorem sect_fold (a : Int) : ∀ (l : List RSec) (K : Int), 0 ≤ K → Srt l → (∀ s ∈ l, 0 ≤ s.n) → (∀ s ∈ l, s.area = a → K ≤ s.n) →
    K ≤ l.foldl (sectF a) K ∧ (∀ s ∈ l, s.area = a → s.n < l.foldl (sectF a) K) ∧ (l.foldl (sectF a) K = K ∨ ∃ s ∈ l, s.area = a ∧ l.foldl (sectF a) K = s.n + 1)
  | [], K, _, _, _, _ => ⟨Int.le_refl _, fun s hs => (nomatch hs), .inl rfl⟩
  | x :: l, K, hK, hs, hn, hk => by
    obtain ⟨h1, h2⟩ := List.pairwise_cons.1 hs
    rw [List.foldl_cons]
    by_cases hx : x.area = a
    · have e : sectF a K x = x.n + 1 := if_pos hx
      rw [e]
      have hx0 := hn x (List.mem_cons_self ..)
      have hxk := hk x (List.mem_cons_self ..) hx
      obtain ⟨g1, g2, g3⟩ := sect_fold a l (x.n + 1) (by omega) h2 (fun s hs => hn s (List.mem_cons_of_mem _ hs)) (fun s hs ha => by have := h1 s hs; unfold before at this; omega)
      refine ⟨by omega, fun s hs ha => ?_, ?_⟩
      · rcases List.mem_cons.1 hs with hs | hs
        · rw [hs]; omega
        · exact g2 s hs ha
      · rcases g3 with g3 | ⟨s, hs, e1, e2⟩
        · exact .inr ⟨x, List.mem_cons_self .., hx, g3⟩
        · exact .inr ⟨s, List.mem_cons_of_mem _ hs, e1, e2⟩
    · have e : sectF a K x = K := if_neg hx
      rw [e]
      obtain ⟨g1, g2, g3⟩ := sect_fold a l K hK h2 (fun s hs => hn s (List.mem_cons_of_mem _ hs)) (fun s hs => hk s (List.mem_cons_of_mem _ hs))
      refine ⟨g1, fun s hs ha => ?_, ?_⟩
      · rcases List.mem_cons.1 hs with hs | hs
        · rw [hs] at ha; exact absurd ha hx
        · exact g2 s hs ha
      · rcases g3 with g3 | ⟨s, hs, e1, e2⟩
        · exact .inl g3
        · exact .inr ⟨s, List.mem_cons_of_mem _ hs, e1, e2⟩
theorem sect_is {st : DSt} {r : RSt} (h : RelD st r) (a : Int) : SectIs st a (sectR r.l a) := by
  obtain ⟨g1, g2, g3⟩ := sect_fold a r.l 0 (Int.le_refl _) h.srt (fun s hs => (h.wf s hs).2.1) (fun s hs _ => (h.wf s hs).2.1)
  have hF : ∀ x s, st.F a x = some s → ∃ y ∈ r.l, y.area = a ∧ y.n = x := fun x s e => by
    rw [h.F] at e
    obtain ⟨y, hy, e1, e2, _⟩ := find_some e
    exact ⟨y, hy, e1, e2⟩
  refine ⟨g1, ?_, fun x s e => ?_, ?_⟩
  · rcases g3 with g3 | ⟨s, hs, e1, e2⟩
    · unfold sectR; rw [g3]; decide
    · unfold sectR; rw [e2]; have := (h.wf s hs).2.2; omega
  · obtain ⟨y, hy, e1, rfl⟩ := hF x s e
    exact g2 y hy e1
  · rcases g3 with g3 | ⟨s, hs, e1, e2⟩
    · exact .inl g3
    · refine .inr ⟨(s.L, s.sync), ?_⟩
      have := find_mem h.srt hs
      rw [← h.F, e1] at this
      unfold sectR
      rw [e2, show s.n + 1 - 1 = s.n by omega]
      exact this
set_option maxRecDepth 100000 in
set_option maxHeartbeats 2000000 in
theorem rsectors_any (r : RSt) (v : Value) (q : List (RSec × Value)) (a : Int) (w : World) (h : RowIs w v q) (hq : ∀ x ∈ q, 0 ≤ x.1.n ∧ x.1.n < 65536) :
    Calls Try.prog 34 #[.agg (diskR r v), .int .u64 a] w fun e w' => e = .returned (.int .i64 (sectR (q.map (·.1)) a)) ∧ Below w.heap.size w w' := by
  have hlen := h.len
  obtain ⟨av, cv, rfl⟩ := h.slice
  obtain ⟨room, steps, left, armed, dead, l⟩ := r
  unfold diskR
  dsimp only
  obtain ⟨W1, hW1⟩ : ∃ W1, w.alloc (.cells #[.int .i64 room, .int .i64 steps, .int .i64 left, .bool armed, .bool dead, .slice av q.length cv] 40) = W1 := ⟨_, rfl⟩
  obtain ⟨B, hB⟩ : ∃ B, w.heap.size = B := ⟨_, rfl⟩
  have hb1 : Below w.heap.size w W1 := by rw [← hW1]; exact (Below.refl _ _).alloc (Nat.le_refl _) _
  have h1 := h.below hb1
  have hblk : Blk W1 B 40 #[.int .i64 room, .int .i64 steps, .int .i64 left, .bool armed, .bool dead, .slice av q.length cv] := by rw [← hW1, ← hB]; exact Blk.alloc_new _ _ _
  have c5 : W1.cell? ⟨B, 5, none⟩ = some (.slice av q.length cv) := by rw [Blk.cell hblk]; rfl
  have HQ := Lib.hid hq
  clear h hq
  go_enter Try.func34, Try.ntmps34
  go_wp2_with fail
  try rw [hB]
  try rw [hW1]
  go_loopw [5, 6] (fun x5 x6 wr => ∃ (i : Nat) (K : Int), x5 = .int .i64 K ∧ x6 = .int .i64 i ∧ i ≤ q.length ∧ K = sectR ((q.take i).map (·.1)) a ∧ wr = W1) (fun _ x6 _ => q.length - (intOf x6).toNat)
  case atStart => exact ⟨0, 0, rfl, rfl, Nat.zero_le _, rfl, rfl⟩
  case round =>
    obtain ⟨i, K, rfl, rfl, hi, hK, rfl⟩ := hrel
    by_cases hlt : (i : Int) < (q.length : Int)
    · have hiq : i < q.length := by omega
      obtain ⟨x, hx⟩ : ∃ x, q[i]? = some x := ⟨_, List.getElem?_eq_getElem hiq⟩
      obtain ⟨g, rfl, hg, k0, k1, k2, k3⟩ := h1.at_ hx
      have hxn := HQ.out x (List.mem_of_getElem? hx)
      have hstep : sectR ((q.take (i + 1)).map (·.1)) a = if x.1.area = a then x.1.n + 1 else K := by
        rw [List.take_add_one, hx, hK]
        unfold sectR
        simp [sectF]
      have hinext : IntKind.i64.wrap ((i : Int) + 1) = ((i + 1 : Nat) : Int) := IntWalk.i64_in _ (by omega)
      have i0 : (0 : Int) ≤ (i : Int) := by omega
      obtain ⟨y, hy⟩ : ∃ y, x.1.n = y := ⟨_, rfl⟩
      rw [hy] at k1 hstep hxn
      have w2 : IntKind.i64.wrap (y + 1) = y + 1 := IntWalk.i64_in _ (by omega)
      by_cases ha : x.1.area = a
      · rw [ha] at k0
        rw [if_pos ha] at hstep
        have HS := Lib.hid hstep
        clear hstep hK hx hy ha
        go_wp2_with fail
        refine ⟨⟨i + 1, y + 1, rfl, ?_, by omega, HS.out.symm, trivial⟩, ?_⟩
        · first | rfl | congr 1
        · simp [intOf]; omega
      · rw [if_neg ha] at hstep
        obtain ⟨z, hz⟩ : ∃ z, x.1.area = z := ⟨_, rfl⟩
        rw [hz] at k0 ha
        have HS := Lib.hid hstep
        clear hstep hK hx hy hz
        go_wp2_with fail
        refine ⟨⟨i + 1, K, rfl, ?_, by omega, HS.out.symm, trivial⟩, ?_⟩
        · first | rfl | congr 1
        · simp [intOf]; omega
    · have hie : i = q.length := by omega
      subst hie
      rw [List.take_length] at hK
      have HK := Lib.hid hK
      clear hK
      go_wp2_with fail
      go_ret
      exact ⟨ret_i HK.out, by first | exact hb1 | (rw [← hB]; exact hb1)⟩

/-- the areas, as they are gathered -/
def areaF (acc : List Int) (s : RSec) : List Int := if acc.getLast? = some s.area then acc else acc ++ [s.area]
def areaG (l : List RSec) : List Int := l.foldl areaF []
theorem area_acc (l : List RSec) : ∀ (b : Int) (acc : List Int), Srt l → (∀ s ∈ l, b ≤ s.area) →
    l.foldl areaF (acc ++ [b]) = acc ++ (match areasR l with | [] => [b] | c :: t => if b = c then c :: t else b :: c :: t) := by
  induction l with
  | nil => intro b acc _ _; rfl
  | cons x l ih =>
    intro b acc hs hb
    obtain ⟨h1, h2⟩ := List.pairwise_cons.1 hs
    rw [List.foldl_cons]
    have hle : ∀ s ∈ l, x.area ≤ s.area := fun s hs => by have := h1 s hs; unfold before at this; omega
    obtain ⟨t, ht⟩ := areas_head x l
    by_cases hx : b = x.area
    · subst hx
      have e : areaF (acc ++ [x.area]) x = acc ++ [x.area] := by unfold areaF; rw [if_pos (by simp)]
      rw [e, ih x.area acc h2 hle, ht]
      show _ = acc ++ (if x.area = x.area then x.area :: t else x.area :: x.area :: t)
      rw [if_pos rfl, ← ht]
      rfl
    · have e : areaF (acc ++ [b]) x = (acc ++ [b]) ++ [x.area] := by unfold areaF; rw [if_neg (by simp; exact hx)]
      rw [e, ih x.area (acc ++ [b]) h2 hle, ht]
      show _ = acc ++ (if b = x.area then x.area :: t else b :: x.area :: t)
      rw [if_neg hx, ← ht, List.append_assoc]
      rfl
theorem areaG_eq {l : List RSec} (h : Srt l) : areaG l = areasR l := by
  cases l with
  | nil => rfl
  | cons x l =>
    obtain ⟨h1, h2⟩ := List.pairwise_cons.1 h
    have := area_acc l x.area [] h2 (fun s hs => by have := h1 s hs; unfold before at this; omega)
    simp only [List.nil_append] at this
    unfold areaG
    rw [List.foldl_cons]
    have e : areaF [] x = [x.area] := by unfold areaF; rw [if_neg (by simp)]; rfl
    rw [e, this]; rfl
theorem area_len (l : List RSec) : (areaG l).length ≤ l.length := by
  have key : ∀ (l : List RSec) (acc : List Int), (l.foldl areaF acc).length ≤ acc.length + l.length := by
    intro l
    induction l with
    | nil => intro acc; exact Nat.le_refl _
    | cons x l ih =>
      intro acc
      rw [List.foldl_cons]
      refine Nat.le_trans (ih _) ?_
      unfold areaF
      split <;> simp <;> omega
  have := key l []
  simp only [List.length_nil, Nat.zero_add] at this
  exact this
theorem u64_info : ∃ i, Try.prog.info? 27 = some i ∧ i.zero = some (.int .u64 0) ∧ i.size = 1 ∧ i.bytes = 8 := by
  have h : (Try.prog.info? 27).map (fun i => (i.zero, i.size, i.bytes)) = some (some (.int .u64 0), 1, 8) := by kernel_rfl
  obtain ⟨i, hi⟩ : ∃ i, Try.prog.info? 27 = some i := by
    cases e : Try.prog.info? 27 with
    | none => rw [e] at h; cases h
    | some i => exact ⟨i, rfl⟩
  rw [hi] at h
  simp only [Option.map_some, Option.some.injEq, Prod.mk.injEq] at h
  exact ⟨i, hi, h.1, h.2.1, h.2.2⟩
theorem area_step (l : List RSec) (x : RSec) : areaG (l ++ [x]) = areaF (areaG l) x := by unfold areaG; rw [List.foldl_append]; rfl
set_option maxRecDepth 100000 in
set_option maxHeartbeats 4000000 in
theorem rareas_any (r : RSt) (v : Value) (q : List (RSec × Value)) (w : World) (h : RowIs w v q) :
    Calls Try.prog 33 #[.agg (diskR r v)] w fun e w' => ∃ v', e = .returned v' ∧ Ints w' .u64 v' (areaG (q.map (·.1))) ∧ Below w.heap.size w w' := by
  obtain ⟨i0, hi0, hz0, hz1, hz2⟩ := u64_info
  have hlen := h.len
  obtain ⟨av, cv, rfl⟩ := h.slice
  obtain ⟨room, steps, left, armed, dead, l⟩ := r
  unfold diskR
  dsimp only
  obtain ⟨W1, hW1⟩ : ∃ W1, w.alloc (.cells #[.int .i64 room, .int .i64 steps, .int .i64 left, .bool armed, .bool dead, .slice av q.length cv] 40) = W1 := ⟨_, rfl⟩
  obtain ⟨B, hB⟩ : ∃ B, w.heap.size = B := ⟨_, rfl⟩
  have hb1 : Below w.heap.size w W1 := by rw [← hW1]; exact (Below.refl _ _).alloc (Nat.le_refl _) _
  have h1 := h.below hb1
  have hblk : Blk W1 B 40 #[.int .i64 room, .int .i64 steps, .int .i64 left, .bool armed, .bool dead, .slice av q.length cv] := by rw [← hW1, ← hB]; exact Blk.alloc_new _ _ _
  obtain ⟨M, hM⟩ : ∃ M, W1.heap.size = M := ⟨_, rfl⟩
  have hBM : B < M := by have := Blk.lt hblk; omega
  have HB1 := Lib.hid hb1
  have HM := Lib.hid hM
  have HH := Lib.hid h1
  have HBK := Lib.hid hblk
  have hown0 : W1.ownsRow M 27 1 (.slice none 0 0) 0 [] := World.ownsRow_nil _ _ _ _
  have hbl0 : Below M W1 W1 := Below.refl _ _
  clear h hb1 h1 hM hblk
  go_enter Try.func33, Try.ntmps33
  go_wp2_with fail
  try rw [hB]
  try rw [hW1]
  go_loopw [3, 4] (fun x3 x4 wr => ∃ (i : Nat) (v : Value) (acc : List Int), x3 = v ∧ x4 = .int .i64 i ∧ i ≤ q.length ∧ acc.length ≤ i ∧ acc = areaG ((q.take i).map (·.1)) ∧ wr.ownsRow M 27 1 v acc.length (acc.map (.int .u64)) ∧ Below M W1 wr) (fun _ x4 _ => q.length - (intOf x4).toNat)
  case atStart => exact ⟨0, _, [], rfl, rfl, Nat.zero_le _, Nat.le_refl _, rfl, hown0, hbl0⟩
  case round =>
    clear hown0 hbl0
    obtain ⟨i, v, acc, hvx, rfl, hi, hal, hacc, hown, hbl⟩ := hrel
    subst hvx
    have hMs := HM.out
    have hszr : M ≤ wr.heap.size := by have := hbl.size; omega
    have bB := HBK.out.below hbl hBM
    have c5 : wr.cell? ⟨B, 5, none⟩ = some (.slice av q.length cv) := by rw [Blk.cell bB]; rfl
    by_cases hlt : (i : Int) < (q.length : Int)
    · have hiq : i < q.length := by omega
      obtain ⟨x, hx⟩ : ∃ x, q[i]? = some x := ⟨_, List.getElem?_eq_getElem hiq⟩
      obtain ⟨g, rfl, hg, k0, k1, k2, k3⟩ := (HH.out.below (by rw [hMs]; exact hbl)).at_ hx
      have hstep : areaG ((q.take (i + 1)).map (·.1)) = areaF acc x.1 := by
        rw [List.take_add_one, hx, hacc, ← area_step]; simp
      have hinext : IntKind.i64.wrap ((i : Int) + 1) = ((i + 1 : Nat) : Int) := IntWalk.i64_in _ (by omega)
      have i0' : (0 : Int) ≤ (i : Int) := by omega
      obtain ⟨y, hy⟩ : ∃ y, x.1.area = y := ⟨_, rfl⟩
      rw [hy] at k0
      have hbst : Below M W1 (wr.alloc (.cells #[.int .u64 y] 27)) := hbl.alloc hszr _
      obtain ⟨n7, hn7⟩ : ∃ n7, acc.length = n7 := ⟨_, rfl⟩
      obtain ⟨a7, c7, hv7⟩ := own_slice hown
      rw [hn7] at hv7 hown hal
      subst hv7
      by_cases ha0 : acc = []
      · have hst2 : areaG ((q.take (i + 1)).map (·.1)) = acc ++ [y] := by rw [hstep]; unfold areaF; rw [if_neg (by rw [ha0]; simp), hy]
        have hn0 : n7 = 0 := by rw [← hn7, ha0]; rfl
        have hd0 : ((n7 : Int) == 0) = true := by rw [hn0]; rfl
        have HS := Lib.hid hst2
        have HOWN := Lib.hid hown
        have HBL := Lib.hid hbl
        have HN7 := Lib.hid hn7
        clear hst2 hstep hacc hx hy bB hbst hn7 ha0 hn0
        go_wp2_with fail
        go_quiet (fail)
        obtain ⟨wd, hwd⟩ : ∃ wd, wr.drewN nq = wd := ⟨_, rfl⟩
        have hb9 : Below wr.heap.size wr wd := by rw [← hwd]; exact below_drewN (Below.refl _ _) nq
        have hz9 : wr.heap.size = wd.heap.size := by rw [← hwd]; rfl
        rw [hwd]
        have HOWN := Lib.hid (owns_below HOWN.out hb9)
        have HBL := Lib.hid (HBL.out.trans (hb9.mono hszr))
        have c5 := (hb9.cell (p := ⟨B, 5, none⟩) (by show B < _; omega)).trans c5
        have k0 := (hb9.cell (p := ⟨g, i * 4, none⟩) hg).trans k0
        have hszr : M ≤ wd.heap.size := by omega
        clear hz9 hb9 hwd hown hbl
        go_wp2_with (at_builtin; refine wpList_push _ (by rfl) _ _ 56 rfl M 27 i0 (.int .u64 0) 8 Try.underlying56 hi0 hz0 hz1 hz2 rfl _ n7 _ rfl (HOWN.out.alloc _) wd.heap.size (.int .u64 y) rfl (cell_new _ _ _ _ rfl) rfl (by unfold maxLen; omega) (by omega) (by simp; omega) ?_; intro v' w2 hown2 hb2)
        refine ⟨⟨i + 1, v', acc ++ [y], rfl, ?_, by omega, ?_, HS.out.symm, ?_, ?_⟩, ?_⟩
        · first | rfl | congr 1
        · have := HN7.out; simp; omega
        · have e : (acc ++ [y]).length = n7 + 1 := by simp [HN7.out]
          have e2 : (acc ++ [y]).map (Value.int .u64) = acc.map (.int .u64) ++ [.int .u64 y] := by simp
          rw [e, e2]; exact hown2
        · exact (HBL.out.alloc (by assumption) _).trans hb2
        · simp [intOf]; omega
      · obtain ⟨k, hk⟩ : ∃ k, n7 = k + 1 := ⟨n7 - 1, by have := List.length_pos_iff.2 ha0; omega⟩
        have hint : Ints wr .u64 (.slice a7 n7 c7) acc := Ints.own (by rw [hn7]; exact hown) (by omega)
        obtain ⟨z, hz⟩ : ∃ z, acc.getD k 0 = z := ⟨_, rfl⟩
        obtain ⟨gb, ob, rfl, hgb, kz⟩ := hint.at_ (k := k) (by omega) hz
        have hlast : acc.getLast? = some z := by
          rw [List.getLast?_eq_getElem?, hn7, hk, Nat.add_sub_cancel, List.getElem?_eq_getElem (by omega), ← hz, List.getD_eq_getElem?_getD, List.getElem?_eq_getElem (by omega)]; rfl
        have W1' : wrap64 ((n7 : Int) - 1) = (k : Int) := by rw [IntWalk.wrap64_in _ (by omega)]; omega
        have W2' : IntKind.i64.wrap ((n7 : Int) - 1) = (k : Int) := by rw [IntWalk.i64_in _ (by omega)]; omega
        have W3' : (n7 : Int) - 1 = (k : Int) := by omega
        have hkk : (k : Int) < (n7 : Int) := by omega
        have hk0 : (0 : Int) ≤ (k : Int) := by omega
        have hd0 : ((n7 : Int) == 0) = false := by rw [beq_eq_false_iff_ne]; omega
        by_cases hzy : z = y
        · subst hzy
          have hst2 : areaG ((q.take (i + 1)).map (·.1)) = acc := by rw [hstep]; unfold areaF; rw [if_pos (by rw [hlast, hy])]
          have HS := Lib.hid hst2
          have HOWN := Lib.hid hown
          have HBL := Lib.hid hbl
          have HN7 := Lib.hid hn7
          clear hst2 hstep hacc hx hy bB hbst hn7 ha0 hint hz hlast hk
          go_wp2_with fail
          go_quiet (fail)
          go_wp2_with fail
          have hb9 : Below wr.heap.size wr (wr.drewN nq) := below_drewN (Below.refl _ _) nq
          refine ⟨⟨i + 1, _, acc, rfl, ?_, by omega, ?_, HS.out.symm, ?_, ?_⟩, ?_⟩
          · first | rfl | congr 1
          · have := HN7.out; omega
          · rw [HN7.out]; exact owns_below HOWN.out hb9
          · exact HBL.out.trans (hb9.mono hszr)
          · simp [intOf]; omega
        · have hst2 : areaG ((q.take (i + 1)).map (·.1)) = acc ++ [y] := by rw [hstep]; unfold areaF; rw [if_neg (by rw [hlast, hy]; simpa using hzy), hy]
          have hd1 : (z != y) = true := by simp [hzy]
          have HS := Lib.hid hst2
          have HOWN := Lib.hid hown
          have HBL := Lib.hid hbl
          have HN7 := Lib.hid hn7
          clear hst2 hstep hacc hx hy bB hbst hn7 ha0 hint hz hlast hk
          go_wp2_with fail
          go_quiet (fail)
          obtain ⟨wd, hwd⟩ : ∃ wd, wr.drewN nq = wd := ⟨_, rfl⟩
          have hb9 : Below wr.heap.size wr wd := by rw [← hwd]; exact below_drewN (Below.refl _ _) nq
          have hz9 : wr.heap.size = wd.heap.size := by rw [← hwd]; rfl
          rw [hwd]
          have HOWN := Lib.hid (owns_below HOWN.out hb9)
          have HBL := Lib.hid (HBL.out.trans (hb9.mono hszr))
          have c5 := (hb9.cell (p := ⟨B, 5, none⟩) (by show B < _; omega)).trans c5
          have k0 := (hb9.cell (p := ⟨g, i * 4, none⟩) hg).trans k0
          have hszr : M ≤ wd.heap.size := by omega
          clear hz9 hb9 hwd hown hbl
          go_wp2_with (at_builtin; refine wpList_push _ (by rfl) _ _ 56 rfl M 27 i0 (.int .u64 0) 8 Try.underlying56 hi0 hz0 hz1 hz2 rfl _ n7 _ rfl (HOWN.out.alloc _) wd.heap.size (.int .u64 y) rfl (cell_new _ _ _ _ rfl) rfl (by unfold maxLen; omega) (by omega) (by simp; omega) ?_; intro v' w2 hown2 hb2)
          refine ⟨⟨i + 1, v', acc ++ [y], rfl, ?_, by omega, ?_, HS.out.symm, ?_, ?_⟩, ?_⟩
          · first | rfl | congr 1
          · have := HN7.out; simp; omega
          · have e : (acc ++ [y]).length = n7 + 1 := by simp [HN7.out]
            have e2 : (acc ++ [y]).map (Value.int .u64) = acc.map (.int .u64) ++ [.int .u64 y] := by simp
            rw [e, e2]; exact hown2
          · exact (HBL.out.alloc (by assumption) _).trans hb2
          · simp [intOf]; omega
    · have hie : i = q.length := by omega
      subst hie
      rw [List.take_length] at hacc
      have hint : Ints wr .u64 _ acc := Ints.own hown (by omega)
      rw [hacc] at hint
      have HI := Lib.hid hint
      have HBL := Lib.hid hbl
      clear hint hacc hown hbl
      go_wp2_with fail
      go_ret
      have hbf : Below w.heap.size w wr := HB1.out.trans (HBL.out.mono (by rw [← HM.out]; exact HB1.out.size))
      rw [hB] at hbf
      exact ⟨_, rfl, HI.out, by first | exact hbf | (rw [hB]; exact hbf)⟩
end Go.Proofs.Yteidmneenfdafaa.R
namespace Go.Proofs.Yteidmneenfdafaa.R
open Go.RowKit
open Aid K
set_option linter.unusedSimpArgs false
set_option linter.unusedVariables false

theorem step_below {p : Prop} {wa wc wz : World} (h : p ∧ Below wa.heap.size wa wc) (hb : Below wc.heap.size wc wz) : Below wa.heap.size wa wz := h.2.trans (hb.mono h.2.size)
theorem drew_step {p : Prop} {wa wc : World} (h : p ∧ Below wa.heap.size wa wc) : Below wa.heap.size wa wc.drew := h.2.drew
/-- what a test of a disk knows -/
structure StIn (w0 : World) (p B g : Nat) (O : Nat → Prop) (st : DSt) (r : RSt) (v : Value) (q : List (RSec × Value)) (As : List Int) (vb : Value) (W : World) : Prop where
  d : DiskIs O W p st
  o : ∀ k, O k → k < W.heap.size
  row : RDisk W v r q
  rowA : As ≠ [] → QU.Row W g As.toArray
  ib : Ints W .u64 vb As
  bB : Blk W B 40 (diskR r v)
  below : Below w0.heap.size w0 W
theorem StIn.low {w0 W W' : World} {p B g : Nat} {O : Nat → Prop} {st : DSt} {r : RSt} {v : Value} {q : List (RSec × Value)} {As : List Int} {vb : Value} (h : StIn w0 p B g O st r v q As vb W) (hb : Below W.heap.size W W') : StIn w0 p B g O st r v q As vb W' :=
  ⟨h.d.below hb, fun k hk => by have := h.o k hk; have := hb.size; omega, ⟨h.row.1.below hb, h.row.2⟩, fun hne => (h.rowA hne).below hb, h.ib.below hb, h.bB.below hb (Blk.lt h.bB), h.below.trans (hb.mono h.below.size)⟩
/-- a disk whose versions are sectors -/
def FullV (st : DSt) : Prop := ∀ a m L s, st.F a m = some (L, s) → L ≠ [] ∧ (L.getLastD ByteArray.empty).size = 64
/-- what is read of a disk -/
def ReadOut (st : DSt) (a m : Int) (w' : World) (vx : Value) (is : Bool) : Prop :=
  is = (st.F a m).isSome ∧ ∃ b n c, vx = .slice b n c ∧ (convert 28 9 (.slice b n c)).run Try.prog w' = .ok (.string (((st.F a m).map fun s => s.1.getLastD ByteArray.empty).getD ByteArray.empty)) w'
theorem read_out (O : Nat → Prop) (p : Nat) (st : DSt) (a m : Int) (w : World) (h : DiskIs O w p st) (ha : (Lit.int .u64 a).wf = true) (hm : (Lit.int .i64 m).wf = true) (hV : FullV st) :
    Calls Try.prog 28 #[.pointer (some ⟨p, 0, none⟩), .int .u64 a, .int .i64 m] w fun e w' => ∃ b n c, e = .returned (.tuple #[.slice b n c, .bool (st.F a m).isSome]) ∧
      (∀ w2, Below w'.heap.size w' w2 → (convert 28 9 (.slice b n c)).run Try.prog w2 = .ok (.string (((st.F a m).map fun s => s.1.getLastD ByteArray.empty).getD ByteArray.empty)) w2) ∧ Below w.heap.size w w' := by
  cases hq : st.F a m with
  | none =>
    refine (read_miss O p st a m w h ha hm hq).mono ?_
    rintro e w' ⟨rfl, hb⟩
    exact ⟨none, 0, 0, rfl, fun w2 _ => conv_nil w2, hb⟩
  | some sec =>
    obtain ⟨L, s⟩ := sec
    obtain ⟨hne, h64⟩ := hV a m L s hq
    have hgl : L.getLast hne = L.getLastD ByteArray.empty := by rw [List.getLastD_eq_getLast?, List.getLast?_eq_some_getLast hne]; rfl
    refine (read_there O p st a m L s w h ha hm hq hne (by rw [hgl]; omega)).mono ?_
    rintro e w' ⟨⟨v', rfl, hI, hc⟩, hb⟩
    rw [hgl] at hI
    obtain ⟨b8, c8, rfl⟩ := Ints.form hI
    exact ⟨b8, _, c8, rfl, fun w2 hb2 => (conv_ints (hI.below hb2) (by omega)).2, hb⟩
set_option maxRecDepth 100000 in
set_option maxHeartbeats 8000000 in
theorem stands_any (O : Nat → Prop) (p : Nat) (st : DSt) (r : RSt) (v : Value) (q : List (RSec × Value)) (w : World) (D : DiskIs O w p st) (hO : ∀ k, O k → k < w.heap.size) (hRel : RelD st r) (hrow : RDisk w v r q) (hC : st.C ≤ 4398046511104) (hV : FullV st) :
    Calls Try.prog 21 #[.pointer (some ⟨p, 0, none⟩), .agg (diskR r v)] w (TrueIn w) := by
  obtain ⟨av, cv, rfl⟩ := hrow.1.slice
  have hql := hrow.2
  have hRoom := hRel.room
  have hSteps := hRel.steps
  have hDead := hRel.dead
  obtain ⟨room, steps, left, armed, dead, l⟩ := r
  dsimp only at hRoom hSteps hDead
  obtain ⟨nk, hnk⟩ : ∃ nk, q.length = nk := ⟨_, rfl⟩
  rw [hnk] at hrow ⊢
  obtain ⟨W1, hW1⟩ : ∃ W1, w.alloc (.cells #[.int .i64 room, .int .i64 steps, .int .i64 left, .bool armed, .bool dead, .slice av nk cv] 40) = W1 := ⟨_, rfl⟩
  obtain ⟨B, hB⟩ : ∃ B, w.heap.size = B := ⟨_, rfl⟩
  have hb1 : Below w.heap.size w W1 := by rw [← hW1]; exact (Below.refl _ _).alloc (Nat.le_refl _) _
  have hs1 := hb1.size
  have hblk : Blk W1 B 40 (diskR ⟨room, steps, left, armed, dead, l⟩ (.slice av nk cv)) := by rw [← hW1, ← hB]; exact Blk.alloc_new _ _ _
  have hAs := areas_eq hRel
  have HREL := Lib.hid hRel
  have HBK := Lib.hid hblk
  have HROW := Lib.hid (show RDisk W1 (.slice av nk cv) ⟨room, steps, left, armed, dead, l⟩ q from ⟨hrow.1.below hb1, hrow.2⟩)
  have HNK := Lib.hid hnk
  have HB1 := Lib.hid hb1
  have HV := Lib.hid hV
  have D1 := D.below hb1
  have hO1 : ∀ k, O k → k < W1.heap.size := fun k hk => by have := hO k hk; omega
  unfold diskR
  dsimp only
  clear hRel hblk hrow hnk D hO hb1 hs1 hV hRoom hSteps hDead hql
  go_enter Try.func21, Try.ntmps21
  go_wp2_with fail
  try rw [hB]
  try rw [hW1]
  refine (areas_any O p st W1 D1 hC).mono ?_
  rintro e w2 ⟨vA, xs, rfl, ⟨hxs, hxl⟩, hSA, hb2⟩
  have hAe : QU.srt xs = areasR l := by rw [srtU_eq, areasL_eq hxs]; exact hAs
  rw [hAe] at hSA
  obtain ⟨As, hAsE⟩ : ∃ As, areasR l = As := ⟨_, rfl⟩
  rw [hAsE] at hSA
  have hwf : ∀ a ∈ As, (Lit.int .u64 a).wf = true := fun a ha => by
    rw [← hAsE] at ha
    obtain ⟨s, hs, rfl⟩ := areas_mem.1 ha
    exact (HREL.out.wf s hs).1
  have hAl : As.length ≤ 2932031007390 := by
    rw [← hAsE]
    have := areas_len (l := l)
    have h2 := HROW.out.2
    have h3 := HROW.out.1.len
    dsimp only at h2
    have h4 : l.length = q.length := by rw [← h2, List.length_map]
    omega
  obtain ⟨ad, cap, rfl, g, hg1, hg2⟩ := form_U hSA
  obtain ⟨d0, d1, d2, d3, d4, d5⟩ := blk6 (HBK.out.below hb2 (Blk.lt HBK.out))
  have hra := rareas_any ⟨room, steps, left, armed, dead, l⟩ (.slice av nk cv) q w2 (HROW.out.1.below hb2)
  rw [HROW.out.2] at hra
  dsimp only at hra
  rw [areaG_eq (l := l) HREL.out.srt, hAsE] at hra
  unfold diskR at hra
  dsimp only at hra
  have HRA := Lib.hid hra
  have HB2 := Lib.hid hb2
  have HG1 := Lib.hid hg1
  have HWF := Lib.hid hwf
  have hs2 := hb2.size
  clear hra hb2 hg1 hwf hSA hxs hxl hAe hAs hAsE hg2
  go_wp2_with fail
  refine HRA.out.mono ?_
  rintro e w3 ⟨vb, rfl, hIb, hb3⟩
  obtain ⟨ab, cb, rfl⟩ := Ints.form hIb
  have hB13 := HB2.out.trans (hb3.mono hs2)
  have hS : StIn w p B g O st ⟨room, steps, left, armed, dead, l⟩ (.slice av nk cv) q As (.slice ab As.length cb) w3 := by
    refine ⟨(D1.below HB2.out).below hb3, fun k hk => ?_, ?_, fun hne => (HG1.out hne).2.2.below hb3, hIb, ?_, HB1.out.trans (hB13.mono HB1.out.size)⟩
    · have := hO1 k hk; have := hB13.size; omega
    · exact ⟨HROW.out.1.below hB13, HROW.out.2⟩
    · exact HBK.out.below hB13 (Blk.lt HBK.out)
  have HG2 := Lib.hid (fun hne => (HG1.out hne).1)
  obtain ⟨d0, d1, d2, d3, d4, d5⟩ := blk6 hS.bB
  have hsr := hS.d
  have HS := Lib.hid hS
  have e1 := HREL.out.room
  have e2 := HREL.out.steps
  have e3 := HREL.out.dead
  dsimp only at e1 e2 e3
  subst e1 e2 e3
  clear hS hIb hb3 hB13 HRA HB2 HG1 D1 hO1 HBK HROW
  go_wp2_with fail
  go_quiet (first
    | (go_at_call 18; exact Calls.quiet_of_same (room_any O p st _ (hsr.drew _)))
    | (go_at_call 16; exact Calls.quiet_of_same (steps_any O p st _ (hsr.drew _)))
    | (go_at_call 15; exact Calls.quiet_of_same (dead_any O p st _ (hsr.drew _))))
  obtain ⟨w4, hw4⟩ : ∃ w4, w3.drewN nq = w4 := ⟨_, rfl⟩
  have hb4 : Below w3.heap.size w3 w4 := by rw [← hw4]; exact below_drewN (Below.refl _ _) nq
  rw [hw4]
  have hS4 := HS.out.low hb4
  clear hw4 hb4 HS hsr d0 d1 d2 d3 d4 d5
  go_wp2_with fail
  go_loopw [49] (fun x49 wr => ∃ i : Nat, x49 = .int .i64 i ∧ i ≤ As.length ∧ StIn w p B g O st ⟨st.room, st.steps, left, armed, st.dead, l⟩ (.slice av nk cv) q As (.slice ab As.length cb) wr) (fun x49 _ => As.length - (intOf x49).toNat)
  case atStart => exact ⟨0, rfl, Nat.zero_le _, hS4⟩
  case round =>
    clear hS4
    obtain ⟨i, rfl, hi, hS⟩ := hrel
    rename World => wa
    by_cases hlt : (i : Int) < (As.length : Int)
    · have hiA : i < As.length := by omega
      have hne : As ≠ [] := fun e => by rw [e] at hiA; cases hiA
      obtain rfl := HG2.out hne
      obtain ⟨a, haE⟩ : ∃ a, As.getD i 0 = a := ⟨_, rfl⟩
      have haG : As[i]'hiA = a := by rw [← haE, List.getD_eq_getElem?_getD, List.getElem?_eq_getElem hiA]; rfl
      have hawf := HWF.out a (by rw [← haG]; exact List.getElem_mem hiA)
      have hcA : wa.cell? ⟨g, i, none⟩ = some (.int .u64 a) := (hS.rowA hne).cell (by simpa using hiA) (by simp [getElem!_pos, hiA, haG])
      obtain ⟨gb, ob, rfl, hgb, hcB⟩ := hS.ib.at_ (k := i) hiA haE
      have hinext : IntKind.i64.wrap ((i : Int) + 1) = ((i + 1 : Nat) : Int) := IntWalk.i64_in _ (by omega)
      have i0 : (0 : Int) ≤ (i : Int) := by omega
      have hgA : g < wa.heap.size := (hS.rowA hne).lt
      have hgB := Blk.lt hS.bB
      obtain ⟨d0, d1, d2, d3, d4, d5⟩ := blk6 hS.bB
      have hall : ∀ w', Below wa.heap.size wa w' → Below wa.heap.size wa w' ∧ w'.cell? ⟨g, i, none⟩ = some (.int .u64 a) ∧ w'.cell? ⟨gb, ob + i, none⟩ = some (.int .u64 a) ∧ w'.cell? ⟨B, 0, none⟩ = some (.int .i64 st.room) ∧ w'.cell? ⟨B, 1, none⟩ = some (.int .i64 st.steps) ∧ w'.cell? ⟨B, 2, none⟩ = some (.int .i64 left) ∧ w'.cell? ⟨B, 3, none⟩ = some (.bool armed) ∧ w'.cell? ⟨B, 4, none⟩ = some (.bool st.dead) ∧ w'.cell? ⟨B, 5, none⟩ = some (.slice av nk cv) := fun w' hb =>
        ⟨hb, (hb.cell (p := ⟨g, i, none⟩) hgA).trans hcA, (hb.cell (p := ⟨gb, ob + i, none⟩) hgb).trans hcB, (hb.cell (p := ⟨B, 0, none⟩) hgB).trans d0, (hb.cell (p := ⟨B, 1, none⟩) hgB).trans d1, (hb.cell (p := ⟨B, 2, none⟩) hgB).trans d2, (hb.cell (p := ⟨B, 3, none⟩) hgB).trans d3, (hb.cell (p := ⟨B, 4, none⟩) hgB).trans d4, (hb.cell (p := ⟨B, 5, none⟩) hgB).trans d5⟩
      obtain ⟨K, hKe⟩ : ∃ K, sectR l a = K := ⟨_, rfl⟩
      have hKi : SectIs st a K := by rw [← hKe]; exact sect_is HREL.out a
      have hds : ∀ w', Below wa.heap.size wa w' → Calls Try.prog 27 #[.pointer (some ⟨p, 0, none⟩), .int .u64 a] w' fun e w'' => e = .returned (.int .i64 K) ∧ Below w'.heap.size w' w'' := fun w' hb =>
        (sectors_any O p st a w' (hS.d.below hb) (fun k hk => by have := hS.o k hk; have := hb.size; omega) hawf (fun x s e => by
          rw [HREL.out.F] at e
          obtain ⟨y, hy, _, e2, _⟩ := find_some e
          have := (HREL.out.wf y hy).2
          rw [e2] at this; exact this)).mono fun e w'' ⟨K', h1, h2, h3⟩ => ⟨by rw [h1, SectIs.one h2 hKi (fun x => rfl)], h3⟩
      have hrs : ∀ w', Below wa.heap.size wa w' → Calls Try.prog 34 #[.agg #[.int .i64 st.room, .int .i64 st.steps, .int .i64 left, .bool armed, .bool st.dead, .slice av nk cv], .int .u64 a] w' fun e w'' => e = .returned (.int .i64 K) ∧ Below w'.heap.size w' w'' := fun w' hb =>
        (rsectors_any ⟨st.room, st.steps, left, armed, st.dead, l⟩ (.slice av nk cv) q a w' (hS.row.1.below hb) (fun x hx => by
          have hm : x.1 ∈ l := by have := hS.row.2; dsimp only at this; rw [← this]; exact List.mem_map.2 ⟨x, hx, rfl⟩
          exact (HREL.out.wf x.1 hm).2)).mono fun e w'' ⟨h1, h2⟩ => ⟨by have := hS.row.2; dsimp only at this; rw [h1, this, hKe], h2⟩
      have HS := Lib.hid hS
      have HALL := Lib.hid hall
      have HAE := Lib.hid haE
      have HDS := Lib.hid hds
      have HRS := Lib.hid hrs
      have hS0 := hall wa (Below.refl _ _)
      have hK0 := hKi.1
      have hK1 := hKi.2.1
      clear hS haE haG hall hds hrs hKi hKe
      go_wp2_with fail
      go_region_held3 (fun w' => Below wa.heap.size wa w' ∧ w'.cell? ⟨g, i, none⟩ = some (.int .u64 a) ∧ w'.cell? ⟨gb, ob + i, none⟩ = some (.int .u64 a) ∧ w'.cell? ⟨B, 0, none⟩ = some (.int .i64 st.room) ∧ w'.cell? ⟨B, 1, none⟩ = some (.int .i64 st.steps) ∧ w'.cell? ⟨B, 2, none⟩ = some (.int .i64 left) ∧ w'.cell? ⟨B, 3, none⟩ = some (.bool armed) ∧ w'.cell? ⟨B, 4, none⟩ = some (.bool st.dead) ∧ w'.cell? ⟨B, 5, none⟩ = some (.slice av nk cv)) (first | assumption | (exact HALL.out _ (Below.drew (And.left (by assumption)))) | (exact HALL.out _ (by assumption))) (first
        | (go_at_call 27; refine (HDS.out _ (And.left (by assumption))).mono ?_; rintro e wz ⟨rfl, hbz⟩; have hz := (And.left (by assumption) : Below wa.heap.size wa _).trans (hbz.mono (And.left (by assumption) : Below wa.heap.size wa _).size))
        | (go_at_call 34; refine (HRS.out _ (And.left (by assumption))).mono ?_; rintro e wz ⟨rfl, hbz⟩; have hz := (And.left (by assumption) : Below wa.heap.size wa _).trans (hbz.mono (And.left (by assumption) : Below wa.heap.size wa _).size)))
      all_goals
        clear hS0 hcA hcB d0 d1 d2 d3 d4 d5
        try clear hS1
        go_wp2_with fail
        go_loopw [8] (fun x8 w2 => ∃ n : Int, x8 = .int .i64 n ∧ -1 ≤ n ∧ n ≤ 41 ∧ Below wa.heap.size wa w2) (fun x8 _ => (41 - intOf x8).toNat)
        case atStart => exact ⟨-1, rfl, by omega, by omega, hz⟩
        case round =>
          clear hz
          obtain ⟨n, rfl, hn0, hn1, hb⟩ := hrel
          obtain ⟨_, hcA, hcB, d0, d1, d2, d3, d4, d5⟩ := HALL.out _ hb
          have HB := Lib.hid hb
          clear hb
          go_wp2_with fail
          refine (HDS.out _ HB.out).mono ?_
          rintro e w10 ⟨rfl, hb10⟩
          have hb := HB.out.trans (hb10.mono HB.out.size)
          have HB := Lib.hid hb
          clear hb hb10 hcA hcB d0 d1 d2 d3 d4 d5
          obtain ⟨_, hcA, hcB, d0, d1, d2, d3, d4, d5⟩ := HALL.out _ HB.out
          have hwn : (Lit.int .i64 n).wf = true := by simp [Lit.wf, IntKind.min, IntKind.max, IntKind.signed, IntKind.bits]; omega
          have hnext : IntKind.i64.wrap (n + 1) = n + 1 := IntWalk.i64_in _ (by omega)
          obtain ⟨I, hI⟩ : ∃ I, (st.F a n).isSome = I := ⟨_, rfl⟩
          obtain ⟨Sx, hSx⟩ : ∃ Sx, ((st.F a n).map fun s => s.1.getLastD ByteArray.empty).getD ByteArray.empty = Sx := ⟨_, rfl⟩
          have hrd : ∀ w', Below wa.heap.size wa w' → Calls Try.prog 35 #[.agg #[.int .i64 st.room, .int .i64 st.steps, .int .i64 left, .bool armed, .bool st.dead, .slice av nk cv], .int .u64 a, .int .i64 n] w' fun e w'' => e = .returned (.tuple #[.string Sx, .bool I]) ∧ Below w'.heap.size w' w'' := fun w' hb => by
            have := rread_any ⟨st.room, st.steps, left, armed, st.dead, l⟩ (.slice av nk cv) q a n w' ⟨HS.out.row.1.below hb, HS.out.row.2⟩ HREL.out.srt
            have hF := HREL.out.F a n
            dsimp only at this hF
            rw [← hF, hI, hSx] at this
            exact this
          have hdr := read_out O p st a n _ (HS.out.d.below HB.out) hawf hwn HV.out
          rw [hI, hSx] at hdr
          have HRD := Lib.hid hrd
          have HDR := Lib.hid hdr
          clear hrd hdr hI hSx
          obtain ⟨mn, hmn⟩ : ∃ mn, (if (40 : Int) < K then 40 else K) = mn := ⟨_, rfl⟩
          have hm40 : mn ≤ 40 := by rw [← hmn]; split <;> omega
          by_cases hle : n ≤ mn
          · go_wp2_with fail
            refine HDR.out.mono ?_
            rintro e w11 ⟨b8, n8, c8, rfl, hconv, hb11⟩
            have hb := HB.out.trans (hb11.mono HB.out.size)
            have HC := Lib.hid hconv
            have HB11 := Lib.hid hb
            have hS1 := HALL.out _ hb
            have hz11 : wa.heap.size ≤ w11.heap.size := hb.size
            clear hconv hb hb11 hcA hcB d0 d1 d2 d3 d4 d5 HDR
            have hS2 : Below w11.heap.size w11 w11 ∧ w11.cell? ⟨g, i, none⟩ = some (.int .u64 a) ∧ w11.cell? ⟨gb, ob + i, none⟩ = some (.int .u64 a) ∧ w11.cell? ⟨B, 0, none⟩ = some (.int .i64 st.room) ∧ w11.cell? ⟨B, 1, none⟩ = some (.int .i64 st.steps) ∧ w11.cell? ⟨B, 2, none⟩ = some (.int .i64 left) ∧ w11.cell? ⟨B, 3, none⟩ = some (.bool armed) ∧ w11.cell? ⟨B, 4, none⟩ = some (.bool st.dead) ∧ w11.cell? ⟨B, 5, none⟩ = some (.slice av nk cv) := ⟨Below.refl _ _, hS1.2⟩
            clear hS1
            go_wp2_with fail
            go_region_held3 (fun w' => Below w11.heap.size w11 w' ∧ w'.cell? ⟨g, i, none⟩ = some (.int .u64 a) ∧ w'.cell? ⟨gb, ob + i, none⟩ = some (.int .u64 a) ∧ w'.cell? ⟨B, 0, none⟩ = some (.int .i64 st.room) ∧ w'.cell? ⟨B, 1, none⟩ = some (.int .i64 st.steps) ∧ w'.cell? ⟨B, 2, none⟩ = some (.int .i64 left) ∧ w'.cell? ⟨B, 3, none⟩ = some (.bool armed) ∧ w'.cell? ⟨B, 4, none⟩ = some (.bool st.dead) ∧ w'.cell? ⟨B, 5, none⟩ = some (.slice av nk cv)) (first | assumption | (exact ⟨Below.drew (And.left (by assumption)), (HALL.out _ (HB11.out.trans ((Below.drew (And.left (by assumption))).mono hz11))).2⟩) | (exact ⟨by assumption, (HALL.out _ (HB11.out.trans (Below.mono (by assumption) hz11))).2⟩)) (first
              | (go_at_call 35; refine (HRD.out _ (HB11.out.trans (Below.mono (And.left (by assumption)) hz11))).mono ?_; rintro e wz ⟨rfl, hbz⟩; have hz := (And.left (by assumption) : Below w11.heap.size w11 _).trans (hbz.mono (And.left (by assumption) : Below w11.heap.size w11 _).size)))
            have hbf := HB11.out.trans (hz.mono hz11)
            have hc := HC.out _ hz
            have HBF := Lib.hid hbf
            have hcall := HALL.out _ hbf
            clear hbf hS2 hz
            obtain ⟨_, hcA, hcB, d0, d1, d2, d3, d4, d5⟩ := hcall
            go_wp2_with fail
            exact ⟨⟨n + 1, rfl, by omega, by omega, HBF.out⟩, by simp [intOf]; omega⟩
          · have hSf := HS.out.low HB.out
            clear HDR HRD HDS HRS HALL HS HB hcA hcB d0 d1 d2 d3 d4 d5
            go_wp2_with fail
            refine ⟨⟨i + 1, ?_, by omega, hSf⟩, ?_⟩
            · first | rfl | congr 1
            · simp [intOf]; omega
    · have hgB := Blk.lt hS.bB
      have hnkl : nk ≤ 2932031007390 := by have := hS.row.1.len; have := HNK.out; omega
      obtain ⟨d0, d1, d2, d3, d4, d5⟩ := blk6 hS.bB
      have HS := Lib.hid hS
      clear hS
      go_wp2_with fail
      clear d0 d1 d2 d3 d4 d5
      go_loopw [120] (fun x120 w2 => ∃ j : Nat, x120 = .int .i64 j ∧ j ≤ nk ∧ Below wa.heap.size wa w2) (fun x120 _ => nk - (intOf x120).toNat)
      case atStart => exact ⟨0, rfl, Nat.zero_le _, Below.refl _ _⟩
      case round =>
        obtain ⟨j, rfl, hj, hb⟩ := hrel
        by_cases hlt : (j : Int) < (nk : Int)
        · obtain ⟨x, hx⟩ : ∃ x, q[j]? = some x := ⟨_, List.getElem?_eq_getElem (by have := HNK.out; omega)⟩
          have hrow : RowIs wr (.slice av nk cv) q := HS.out.row.1.below hb
          obtain ⟨gq, rfl, hgq, k0, k1, k2, k3⟩ := hrow.at_ hx
          have hsec := hrow.secs x (List.mem_of_getElem? hx)
          have hsec' := hsec
          obtain ⟨⟨_, xa, xc, hxu, _⟩, _⟩ := hsec'
          rw [hxu] at k2
          have hm : x.1 ∈ l := by have := HS.out.row.2; dsimp only at this; rw [← this]; exact List.mem_map.2 ⟨x, List.mem_of_getElem? hx, rfl⟩
          have hxwf := HREL.out.wf x.1 hm
          have hF := find_mem HREL.out.srt hm
          rw [← HREL.out.F] at hF
          obtain ⟨X, hX⟩ : ∃ X, x.1.area = X := ⟨_, rfl⟩
          obtain ⟨Y, hY⟩ : ∃ Y, x.1.n = Y := ⟨_, rfl⟩
          obtain ⟨Z, hZ⟩ : ∃ Z, x.1.sync = Z := ⟨_, rfl⟩
          obtain ⟨xn, hxn⟩ : ∃ xn, x.1.L.length = xn := ⟨_, rfl⟩
          obtain ⟨Sx, hSx⟩ : ∃ Sx, x.1.L.getLastD ByteArray.empty = Sx := ⟨_, rfl⟩
          have hsr : secR x.1 x.2 = #[.int .u64 X, .int .i64 Y, .slice xa xn xc, .bool Z] := by rw [← hX, ← hY, ← hZ, ← hxn, ← hxu]; rfl
          rw [hX] at k0 hF hxwf
          rw [hY] at k1 hF hxwf
          rw [hxn] at k2
          rw [hZ] at k3
          have hla : ∀ w', Below wr.heap.size wr w' → Calls Try.prog 36 #[.agg #[.int .u64 X, .int .i64 Y, .slice xa xn xc, .bool Z]] w' fun e w'' => e = .returned (.string Sx) ∧ Below w'.heap.size w' w'' := fun w' hb => by
            have := rlast_any x.1 x.2 w' (SecIs.below (x := x) hsec hb)
            rw [hsr, hSx] at this
            exact this
          have hjnext : IntKind.i64.wrap ((j : Int) + 1) = ((j + 1 : Nat) : Int) := IntWalk.i64_in _ (by omega)
          have j0 : (0 : Int) ≤ (j : Int) := by omega
          obtain ⟨W5, hW5⟩ : ∃ W5, wr.alloc (.cells #[.int .u64 X, .int .i64 Y, .slice xa xn xc, .bool Z] 76) = W5 := ⟨_, rfl⟩
          obtain ⟨C, hC5⟩ : ∃ C, wr.heap.size = C := ⟨_, rfl⟩
          have hb5 : Below wr.heap.size wr W5 := by rw [← hW5]; exact (Below.refl _ _).alloc (Nat.le_refl _) _
          have bC : Blk W5 C 76 #[.int .u64 X, .int .i64 Y, .slice xa xn xc, .bool Z] := by rw [← hW5, ← hC5]; exact Blk.alloc_new _ _ _
          obtain ⟨s0, s1, s2, s3⟩ := blk4 bC
          have hba := hb.trans (hb5.mono hb.size)
          have hdr := read_out O p st X Y _ (HS.out.d.below hba) hxwf.1 (wf_small hxwf.2) HV.out
          rw [hF] at hdr
          simp only [Option.isSome_some, Option.map_some, Option.getD_some] at hdr
          rw [hSx] at hdr
          have HDR := Lib.hid hdr
          have HLA := Lib.hid hla
          have HBA := Lib.hid hba
          have HB5 := Lib.hid hb5
          have HBC := Lib.hid bC
          have HLT := Lib.hid (Blk.lt bC)
          clear hdr hla hba hb5 bC hF hX hY hZ hxn hSx hsr hm hsec hrow hxwf hb hx hxu
          go_wp2_with fail
          try rw [hC5]
          try rw [hW5]
          refine HDR.out.mono ?_
          rintro e w11 ⟨b8, n8, c8, rfl, hconv, hb11⟩
          have hlt5 := HLT.out
          have hz5 := hb11.size
          have hall : ∀ w', Below w11.heap.size w11 w' → Below w11.heap.size w11 w' ∧ w'.cell? ⟨C, 0, none⟩ = some (.int .u64 X) ∧ w'.cell? ⟨C, 1, none⟩ = some (.int .i64 Y) ∧ w'.cell? ⟨C, 2, none⟩ = some (.slice xa xn xc) ∧ w'.cell? ⟨C, 3, none⟩ = some (.bool Z) ∧ (convert 28 9 (.slice b8 n8 c8)).run Try.prog w' = .ok (.string Sx) w' := fun w' hbz =>
            have hb2 := hb11.trans (hbz.mono hz5)
            ⟨hbz, (hb2.cell (p := ⟨C, 0, none⟩) hlt5).trans s0, (hb2.cell (p := ⟨C, 1, none⟩) hlt5).trans s1, (hb2.cell (p := ⟨C, 2, none⟩) hlt5).trans s2, (hb2.cell (p := ⟨C, 3, none⟩) hlt5).trans s3, hconv w' hbz⟩
          have hb511 := HB5.out.trans (hb11.mono HB5.out.size)
          have HALL := Lib.hid hall
          have HB11 := Lib.hid hb511
          have HBA11 := Lib.hid (HBA.out.trans (hb11.mono HBA.out.size))
          have hz11 : wr.heap.size ≤ w11.heap.size := hb511.size
          have hS0 := hall w11 (Below.refl _ _)
          clear hconv hb11 hall hb511 s0 s1 s2 s3 hz5 hlt5 HDR
          go_wp2_with fail
          go_region_held3 (fun w' => Below w11.heap.size w11 w' ∧ w'.cell? ⟨C, 0, none⟩ = some (.int .u64 X) ∧ w'.cell? ⟨C, 1, none⟩ = some (.int .i64 Y) ∧ w'.cell? ⟨C, 2, none⟩ = some (.slice xa xn xc) ∧ w'.cell? ⟨C, 3, none⟩ = some (.bool Z) ∧ (convert 28 9 (.slice b8 n8 c8)).run Try.prog w' = .ok (.string Sx) w') (first | assumption | (exact HALL.out _ (Below.drew (And.left (by assumption)))) | (exact HALL.out _ (by assumption))) (first
            | (go_at_call 36; refine (HLA.out _ (HB11.out.trans (Below.mono (And.left (by assumption)) hz11))).mono ?_; rintro e wz ⟨rfl, hbz⟩; have hz := (And.left (by assumption) : Below w11.heap.size w11 _).trans (hbz.mono (And.left (by assumption) : Below w11.heap.size w11 _).size)))
          have HBF := Lib.hid (HBA11.out.trans (hz.mono HBA11.out.size))
          clear hS0 hz HLA HALL HBA11 HB11
          go_wp2_with fail
          refine ⟨⟨j + 1, ?_, by omega, HBF.out⟩, ?_⟩
          · first | rfl | congr 1
          · simp [intOf]; omega
        · have HBW := Lib.hid (HS.out.below.trans (hb.mono HS.out.below.size))
          clear hb
          go_wp2_with fail
          go_ret
          have h := HBW.out
          exact ⟨rfl, by first | exact h | (rw [← hB]; exact h) | (rw [hB] at h; exact h)⟩
end Go.Proofs.Yteidmneenfdafaa.R
namespace Go.Proofs.Yteidmneenfdafaa.R
open Go.RowKit
open Aid K
set_option linter.unusedSimpArgs false
set_option linter.unusedVariables false

theorem no_map {w : World} {g : Nat} {es : Array MapEntry} {c : Nat} (h : w.heap[g]? = some (.map es c)) : ¬ StrRow w g := by
  rintro ⟨cs, fr, e⟩
  rw [h] at e; cases e
theorem mapF_no {P : Program} {k : TypeId} {q : IntKind} {w : World} {b : Nat} {f : Int → Option Value} {c : Nat} (h : MapF P k q w b f c) : ¬ StrRow w b := by
  obtain ⟨D, ⟨es, clock, h1, _⟩, _⟩ := h
  exact no_map h1
/-- a disk that shares rows of texts alone with what is turned -/
theorem DiskIs.keep2 {O O' : Nat → Prop} {w w' : World} {p : Nat} {st : DSt} (h : DiskIs O w p st) (hk : Keeps O' w w') (hd : ∀ k, O k → ¬ O' k ∨ StrRow w k) : DiskIs O w' p st := by
  obtain ⟨m, G, h⟩ := h
  have hp : ¬ O' p := (hd p h.op).resolve_right (StrRow.no_blk h.blk (by decide))
  have hm : ¬ O' m := (hd m h.om).resolve_right (mapF_no h.outer)
  refine ⟨m, G, ?_, h.op, h.om, h.outer.kept (hk.block m h.outer.lt hm), fun a g hg => ?_, h.inj, h.empty, h.present⟩
  · have h1 := h.blk; unfold Blk at h1 ⊢; rw [hk.block p (Blk.lt h.blk) hp]; exact h1
  · obtain ⟨e1, e2, S, h1, h2⟩ := h.inner a g hg
    have hgn : ¬ O' g := (hd g e1).resolve_right (mapF_no h1)
    refine ⟨e1, e2, S, h1.kept (hk.block g h1.lt hgn), fun x => ⟨(h2 x).1, fun s hs => ?_⟩⟩
    obtain ⟨v, f1, ⟨h0, a', cap, g1, g2, g3, g4⟩, f3⟩ := (h2 x).2 s hs
    refine ⟨v, f1, ⟨h0, a', cap, g1, g2, g3, fun j hj => ?_⟩, f3⟩
    obtain ⟨b, o, i1, i2, i3, i4⟩ := g4 j hj
    exact ⟨b, o, i1, ⟨i2.1, i2.2.of_eq (hk.rows b i2.2)⟩, Nat.lt_of_lt_of_le i3 hk.size, (World.cell?_of_block (a := ⟨b, o + j, none⟩) (hk.rows b i2.2)).trans i4⟩
theorem full_of' {f : Nat → OpR} {i : Nat} {st : DSt} (h : Wrote f i st.F) : FullV st := fun a m L s e => by
  obtain ⟨h1, h2⟩ := h a m L s e
  refine ⟨h1, (h2 _ ?_).size⟩
  rw [List.getLastD_eq_getLast?, List.getLast?_eq_some_getLast h1]
  exact List.getLast_mem h1
/-- two scripts, one behind the other -/
def both (f g : Nat → OpR) (n : Nat) : Nat → OpR := fun j => if j < n then f j else g (j - n)
theorem both_at (f g : Nat → OpR) (n j : Nat) : both f g n (n + j) = g j := by unfold both; rw [if_neg (by omega)]; congr 1; omega
theorem wrote_both {f g : Nat → OpR} {n : Nat} {F : Int → Int → Option Sec} (h : Wrote f n F) : Wrote (both f g n) n F := fun a m L s e => by
  obtain ⟨h1, h2⟩ := h a m L s e
  refine ⟨h1, fun V hV => ?_⟩
  obtain ⟨j, hj, r⟩ := h2 V hV
  exact ⟨j, hj, by unfold both; rw [if_pos hj]; exact r⟩
theorem fit_C {st : DSt} {R : Int} {i k : Nat} (h : FitS st R i) (hk : k ≤ st.C) : FitS { st with C := k } R i := ⟨h.steps, h.left, h.N, Nat.le_trans hk h.C, h.V, h.room, h.sum⟩
theorem rel_C {st : DSt} {r : RSt} {k : Nat} (h : RelD st r) : RelD { st with C := k } r := ⟨h.room, h.steps, h.dead, h.armed, h.left, h.left2, h.srt, h.wf, h.F, h.N, h.A⟩
theorem rel_wf {st : DSt} {r : RSt} (h : RelD st r) (a : Int) (ha : st.A a = true) : (Lit.int .u64 a).wf = true := by
  rw [h.A] at ha
  have ha' : 0 < cntR r.l a := by simpa using ha
  by_cases hw : (Lit.int .u64 a).wf = true
  · exact hw
  · exfalso
    have : cntR r.l a = 0 := by
      unfold cntR
      rw [List.length_eq_zero_iff, List.filter_eq_nil_iff]
      intro s hs e
      have e' : s.area = a := by simpa using e
      exact hw (e' ▸ (h.wf s hs).1)
    omega
structure ApIn (W0 : World) (E Rb p c : Nat) (std st : DSt) (Od Oc : Nat → Prop) (rd r : RSt) (vd v : Value) (qd q : List (RSec × Value)) (R : Int) (i : Nat) (w : World) : Prop where
  d : DiskIs Oc w c st
  o : ∀ k, Oc k → W0.heap.size ≤ k ∧ k < w.heap.size
  oR : ¬ Oc Rb
  oE : ¬ Oc E
  fit : FitS st R i
  rel : RelD st r
  row : RDisk w v r q
  qo : ∀ k, Q v q k → ¬ Oc k
  len : r.l.length ≤ i
  bR : Blk w Rb 40 (diskR rd vd)
  bE : Blk w E 40 (diskR r v)
  hE : W0.heap.size < E
  hRE : Rb ≠ E
  below : Below W0.heap.size W0 w
  dd : DiskIs Od w p std
  od : ∀ k, Od k → k < w.heap.size
  odE : ¬ Od E
  sep : ∀ k, Od k → ¬ Oc k ∨ StrRow w k
  rowd : RDisk w vd rd qd
  reld : RelD std rd
  fitd : std.C ≤ 4398046511104
  qod : ∀ k, Q vd qd k → ¬ Oc k
set_option maxRecDepth 100000 in
set_option maxHeartbeats 8000000 in
theorem apart_law (room : Int) (v1 : Value) (n1 : Nat) (f1 : Nat → OpR) (v2 : Value) (n : Nat) (f : Nat → OpR) (w : World) (h1 : OpsAre w v1 n1 f1) (h : OpsAre w v2 n f) (hr1 : room ≤ 9223372036854775807) (hnn : n1 + n < 2932031007390) :
    Calls Try.prog 6 #[.int .i64 room, v1, v2] w (TrueIn w) := by
  have hn := h.1
  obtain ⟨a0, cap0, hv0, hel0⟩ := h.2
  subst hv0
  have hbeg := begun_any room v1 n1 f1 w h1 hr1
  have hwr := wrote_both (g := f) (wrote_run f1 room n1)
  obtain ⟨std, hstd⟩ : ∃ std, runS f1 room n1 = std := ⟨_, rfl⟩
  rw [hstd] at hwr hbeg
  have HEL := Lib.hid hel0
  have HWR := Lib.hid hwr
  have HBEG := Lib.hid hbeg
  clear hel0 hwr hstd hbeg h1 h
  go_enter Try.func6, Try.ntmps6
  go_wp2_with fail
  refine HBEG.out.mono ?_
  rintro e w1 ⟨p, Od, rd, vd, qd, rfl, Dd, hOd, hFd, hReld, hrowd, hqod, hlend, hb1⟩
  obtain ⟨avd, cvd, hvd⟩ := hrowd.1.slice
  subst hvd
  obtain ⟨nqd, hnqd⟩ : ∃ nqd, qd.length = nqd := ⟨_, rfl⟩
  obtain ⟨roomd, stepsd, leftd, armedd, deadd, rld⟩ := rd
  rw [hnqd]
  unfold diskR
  dsimp only
  obtain ⟨W2, hW2⟩ : ∃ W2, w1.alloc (.cells #[.int .i64 roomd, .int .i64 stepsd, .int .i64 leftd, .bool armedd, .bool deadd, .slice avd nqd cvd] 40) = W2 := ⟨_, rfl⟩
  obtain ⟨Rb, hRb⟩ : ∃ Rb, w1.heap.size = Rb := ⟨_, rfl⟩
  have bR2 : Blk W2 Rb 40 #[.int .i64 roomd, .int .i64 stepsd, .int .i64 leftd, .bool armedd, .bool deadd, .slice avd nqd cvd] := by rw [← hW2, ← hRb]; exact Blk.alloc_new _ _ _
  have hb2 : Below w1.heap.size w1 W2 := by rw [← hW2]; exact (Below.refl _ _).alloc (Nat.le_refl _) _
  have hs1 := hb1.size
  have hs2 := hb2.size
  have hz2 : W2.heap.size = Rb + 1 := by rw [← hW2, ← hRb]; simp
  have Dd2 := Dd.below hb2
  have hOd2 : ∀ k, Od k → k < W2.heap.size := fun k hk => by have := hOd k hk; omega
  have hclone := clone_any Od p std W2 Dd2 hOd2 (fun a ha => rel_wf hReld a ha) (by have := hFd.C; omega)
  obtain ⟨y0, y1, y2, y3, y4, y5⟩ := blk6 bR2
  have HCL := Lib.hid hclone
  have HDD := Lib.hid Dd
  have HOD := Lib.hid hOd
  have HFD := Lib.hid hFd
  have HRELD := Lib.hid hReld
  have HROWD := Lib.hid hrowd
  have HQOD := Lib.hid hqod
  have HNQD := Lib.hid hnqd
  have HLEND := Lib.hid hlend
  have HB1 := Lib.hid hb1
  have HB2 := Lib.hid hb2
  have HBR2 := Lib.hid bR2
  have HZ2 := Lib.hid hz2
  have HS1 := Lib.hid hs1
  have HRB := Lib.hid hRb
  clear hclone Dd Dd2 hOd hOd2 hFd hReld hrowd hqod hnqd hlend hb1 hb2 bR2 hz2 hs1 hs2 y0 y1 y2 y3 y4 y5
  go_wp2_with fail
  try rw [hW2]
  refine (HCL.out).mono ?_
  rintro e w3 ⟨c, Oc, kC, rfl, Dc, hkC, hOc, hb3⟩
  have hRb3 : Rb < w3.heap.size := by have := HZ2.out; have := hb3.size; omega
  have bR3 := HBR2.out.below hb3 (Blk.lt HBR2.out)
  obtain ⟨y0, y1, y2, y3, y4, y5⟩ := blk6 bR3
  have HDC := Lib.hid Dc
  have HOC := Lib.hid hOc
  have HB3 := Lib.hid hb3
  have HKC := Lib.hid hkC
  have HBR3 := Lib.hid bR3
  clear Dc hOc hb3 hkC bR3 HCL HBR2 hW2
  go_wp2_with fail
  obtain ⟨E, hE⟩ : ∃ E, w3.heap.size = E := ⟨_, rfl⟩
  rw [hE]
  obtain ⟨W4, hW4⟩ : ∃ W4, w3.alloc (.cells #[.int .i64 roomd, .int .i64 stepsd, .int .i64 leftd, .bool armedd, .bool deadd, .slice avd nqd cvd] 40) = W4 := ⟨_, rfl⟩
  rw [hW4]
  have hA0 : ApIn w E Rb p c std { std with C := kC } Od Oc ⟨roomd, stepsd, leftd, armedd, deadd, rld⟩ ⟨roomd, stepsd, leftd, armedd, deadd, rld⟩ (.slice avd nqd cvd) (.slice avd nqd cvd) qd qd (max room 0) n1 W4 := by
    have hrow := HROWD.out
    have hq := HQOD.out
    rw [HNQD.out] at hrow hq
    have hs1 := HS1.out
    have hs2 := HB2.out.size
    have hs3 := HB3.out.size
    have hz2 := HZ2.out
    have hrb := HRB.out
    have hb4 : Below w3.heap.size w3 W4 := by rw [← hW4]; exact (Below.refl _ _).alloc (Nat.le_refl _) _
    have hz4 : W4.heap.size = E + 1 := by rw [← hW4, ← hE]; simp
    have bE4 : Blk W4 E 40 #[.int .i64 roomd, .int .i64 stepsd, .int .i64 leftd, .bool armedd, .bool deadd, .slice avd nqd cvd] := by rw [← hW4, ← hE]; exact Blk.alloc_new _ _ _
    have hb13 : Below w1.heap.size w1 W4 := (HB2.out.trans (HB3.out.mono (by omega))).trans (hb4.mono (by omega))
    have hrowW : RDisk W4 (.slice avd nqd cvd) ⟨roomd, stepsd, leftd, armedd, deadd, rld⟩ qd := ⟨hrow.1.below hb13, hrow.2⟩
    refine ⟨HDC.out.below hb4, fun k hk => ?_, fun hk => ?_, fun hk => ?_, fit_C HFD.out HKC.out, rel_C HRELD.out, hrowW, fun k hk ho => ?_, HLEND.out, HBR3.out.below hb4 hRb3, bE4, by omega, by omega, ?_, HDD.out.below hb13, fun k hk => ?_, fun hk => ?_, fun k hk => ?_, hrowW, HRELD.out, by have := HFD.out.C; omega, fun k hk ho => ?_⟩
    · rcases HOC.out k hk with h1 | h1
      · omega
      · have := HOD.out k h1.1; omega
    · rcases HOC.out _ hk with h1 | h1
      · omega
      · have := HOD.out _ h1.1; omega
    · rcases HOC.out _ hk with h1 | h1
      · omega
      · have := HOD.out _ h1.1; omega
    · rcases HOC.out _ ho with h1 | h1
      · have := Q.lt hrow.1 hk; omega
      · exact hq k hk h1.1
    · exact ((HB1.out.trans (HB2.out.mono (by omega))).trans (HB3.out.mono (by omega))).trans (hb4.mono (by omega))
    · have := HOD.out k hk; omega
    · have := HOD.out _ hk; omega
    · by_cases hc : Oc k
      · rcases HOC.out _ hc with h1 | h1
        · have := HOD.out k hk; omega
        · have h2 := HOD.out k hk
          exact .inr ((h1.2.of_eq (HB3.out.block k (by omega))).of_eq (hb4.block k (by omega)))
      · exact .inl hc
    · rcases HOC.out _ ho with h1 | h1
      · have := Q.lt hrow.1 hk; omega
      · exact hq k hk h1.1
  have HA0 := Lib.hid hA0
  clear hA0 HDC HOC HB3 HKC HBR3 y0 y1 y2 y3 y4 y5 HDD HOD HFD HRELD HROWD HQOD HLEND HB1 HB2 HZ2 HS1 HRB hRb hRb3 hE hW4
  obtain ⟨rd, hrd⟩ : ∃ rd, (⟨roomd, stepsd, leftd, armedd, deadd, rld⟩ : RSt) = rd := ⟨_, rfl⟩
  rw [hrd] at HA0
  have HRD := Lib.hid hrd
  clear hrd
  go_loopw [32] (fun x32 wr => ∃ (i : Nat) (O : Nat → Prop) (r : RSt) (v : Value) (q : List (RSec × Value)) (st : DSt), x32 = .int .i64 i ∧ i ≤ n ∧ Wrote (both f1 f n1) (n1 + i) st.F ∧ ApIn w E Rb p c std st Od O rd r (.slice avd nqd cvd) v qd q (max room 0) (n1 + i) wr) (fun x32 _ => (n - intOf x32).toNat)
  case atStart => exact ⟨0, Oc, rd, .slice avd nqd cvd, qd, { std with C := kC }, rfl, by omega, HWR.out, HA0.out⟩
  case round =>
    clear HA0
    obtain ⟨i, O, r, v, q, st, rfl, hi, hWr, hA⟩ := hrel
    by_cases hlt : (i : Int) < (n : Int)
    · have hiN : i < n := by omega
      obtain ⟨b, o, rfl, hb, hc0, hc1, hc2, hc3, hok⟩ := HEL.out i hiN
      have hsr := hA.below.size
      have hc0' : wr.cell? ⟨b, o + i * 4, none⟩ = some (.int .i64 (f i).k) := (hA.below.cell (p := ⟨b, o + i * 4, none⟩) hb).trans hc0
      have hc1' : wr.cell? ⟨b, o + i * 4 + 1, none⟩ = some (.int .u64 (f i).a) := (hA.below.cell (p := ⟨b, o + i * 4 + 1, none⟩) hb).trans hc1
      have hc2' : wr.cell? ⟨b, o + i * 4 + 2, none⟩ = some (.int .i64 (f i).n) := (hA.below.cell (p := ⟨b, o + i * 4 + 2, none⟩) hb).trans hc2
      have hc3' : wr.cell? ⟨b, o + i * 4 + 3, none⟩ = some (f i).v := (hA.below.cell (p := ⟨b, o + i * 4 + 3, none⟩) hb).trans hc3
      have hok' : OpOk wr (f i) := hok.below hA.below
      have hWr2 : Wrote (both f1 f n1) (n1 + (i + 1)) (doS st (f i).k (f i).a (f i).n (f i).l).F := by
        have e := wrote_do hWr
        rw [both_at] at e
        exact e
      obtain ⟨x, hx⟩ : ∃ x, f i = x := ⟨_, rfl⟩
      rw [hx] at hc0' hc1' hc2' hc3' hok' hok hWr2
      obtain ⟨k, a, m, vb, l⟩ := x
      simp only at hc0' hc1' hc2' hc3' hWr2
      obtain ⟨va, vc, hve⟩ := Ints.form hok'.ints
      simp only at hve
      have hlv0 := hok.lt
      simp only at hlv0
      obtain ⟨vl, hvl⟩ : ∃ vl, l.length = vl := ⟨_, rfl⟩
      rw [hvl] at hve
      subst hve
      clear hc0 hc1 hc2 hc3
      obtain ⟨Z, hZ⟩ : ∃ Z, wr.heap.size = Z := ⟨_, rfl⟩
      obtain ⟨W1, hW1⟩ : ∃ W1, wr.alloc (.cells #[.int .i64 k, .int .u64 a, .int .i64 m, .slice va vl vc] 30) = W1 := ⟨_, rfl⟩
      have hb1 : Below wr.heap.size wr W1 := by rw [← hW1]; exact (Below.refl _ _).alloc (Nat.le_refl _) _
      have hBk : Blk W1 Z 30 #[.int .i64 k, .int .u64 a, .int .i64 m, .slice va vl vc] := by rw [← hW1, ← hZ]; exact Blk.alloc_new _ _ _
      obtain ⟨y0, y1, y2, y3⟩ := blk4 hBk
      have hsz1 : W1.heap.size = Z + 1 := by rw [← hW1, ← hZ]; simp
      obtain ⟨av, cv, hv⟩ := hA.row.1.slice
      subst hv
      obtain ⟨nq, hnq⟩ : ∃ nq, q.length = nq := ⟨_, rfl⟩
      obtain ⟨room1, steps, left, armed, dead, rl⟩ := r
      have bE1 : Blk W1 E 40 #[.int .i64 room1, .int .i64 steps, .int .i64 left, .bool armed, .bool dead, .slice av nq cv] := by
        have e := hA.bE.below hb1 (Blk.lt hA.bE)
        rw [hnq] at e
        exact e
      have hZE : E < Z := by have := Blk.lt hA.bE; omega
      obtain ⟨a0', a1, a2, a3, a4, a5⟩ := blk6 bE1
      have hrow1 : RDisk W1 (.slice av q.length cv) ⟨room1, steps, left, armed, dead, rl⟩ q := ⟨hA.row.1.below hb1, hA.row.2⟩
      have hfitr := fit_of hA.rel hA.fit (by omega) (by omega) hA.row (by have := hA.len; dsimp only at this ⊢; omega)
      have hdo := rdo_any ⟨room1, steps, left, armed, dead, rl⟩ (.slice av q.length cv) q k a m (.slice va vl vc) l W1 hrow1 hfitr (hok'.below hb1).ints hok.bytes
      unfold diskR at hdo
      dsimp only at hdo
      rw [hnq] at hdo
      have HA := Lib.hid hA
      have HDO := Lib.hid hdo
      have HOK := Lib.hid hok
      have HWR2 := Lib.hid hWr2
      have HB1 := Lib.hid hb1
      have HNQ := Lib.hid hnq
      have HLV := Lib.hid hlv0
      clear hA hdo hok hok' hWr hWr2 hb1 hnq hlv0 hrow1 hfitr
      go_wp2_with fail
      refine HDO.out.mono ?_
      rintro e w2 ⟨v2, q2, r2, x, rfl, hans, hrow2, hq2, hb2⟩
      obtain ⟨a2', c2, hv2⟩ := hrow2.1.slice
      subst hv2
      obtain ⟨z1, z2, z3, z4, z5, z6⟩ := r2
      obtain ⟨n2, hn2⟩ : ∃ n2, q2.length = n2 := ⟨_, rfl⟩
      rw [hn2] at hrow2 hq2
      rw [hn2]
      unfold diskR
      dsimp only
      have hs2 := hb2.size
      have bE2 := bE1.below hb2 (by omega)
      have bZ2 := hBk.below hb2 (by omega)
      obtain ⟨X, hX⟩ : ∃ X, w2.heap.size = X := ⟨_, rfl⟩
      have hXZ : Z < X := by omega
      obtain ⟨W3, hW3⟩ : ∃ W3, w2.alloc (.cells #[.int .i64 z1, .int .i64 z2, .int .i64 z3, .bool z4, .bool z5, .slice a2' n2 c2] 40) = W3 := ⟨_, rfl⟩
      have hb3 : Below w2.heap.size w2 W3 := by rw [← hW3]; exact (Below.refl _ _).alloc (Nat.le_refl _) _
      have hs3 : W3.heap.size = X + 1 := by rw [← hW3, ← hX]; simp
      have bX3 : Blk W3 X 40 #[.int .i64 z1, .int .i64 z2, .int .i64 z3, .bool z4, .bool z5, .slice a2' n2 c2] := by rw [← hW3, ← hX]; exact Blk.alloc_new _ _ _
      have bE3 := bE2.below hb3 (by omega)
      have bZ3 := bZ2.below hb3 (by omega)
      obtain ⟨e0, e1, e2, e3, e4, e5⟩ := blk6 bE3
      obtain ⟨f0, f1', f2, f3, f4, f5⟩ := frees bE3
      obtain ⟨x0, x1, x2, x3, x4, x5⟩ := blk6 bX3
      obtain ⟨g0, g1, g2, g3⟩ := blk4 bZ3
      have HANS := Lib.hid hans
      have HROW := Lib.hid hrow2
      have HQ2 := Lib.hid hq2
      have HB2 := Lib.hid hb2
      have HB3 := Lib.hid hb3
      have HS3 := Lib.hid hs3
      have hZEn : Z ≠ E := by omega
      clear hans hrow2 hq2 hb2 hb3 hs3 hn2 bE1 bE2 bZ2 hBk y0 y1 y2 y3 a0' a1 a2 a3 a4 a5 hs2 hsz1
      go_wp2_with fail
      obtain ⟨W4, hW4⟩ : ∃ W4, six W3 E (.int .i64 z1) (.int .i64 z2) (.int .i64 z3) (.bool z4) (.bool z5) (.slice a2' n2 c2) = W4 := ⟨_, rfl⟩
      have hA := HA.out
      have hb1 := HB1.out
      have hb2 := HB2.out
      have hb3 := HB3.out
      have hs1 := hb1.size
      have hs2 := hb2.size
      have hs3 := HS3.out
      have hsr := hA.below.size
      have hRlt := Blk.lt hA.bR
      have bE4 : Blk W4 E 40 #[.int .i64 z1, .int .i64 z2, .int .i64 z3, .bool z4, .bool z5, .slice a2' n2 c2] := by rw [← hW4]; exact six_blk bE3 _ _ _ _ _ _
      have k4 : Keeps (fun k => k = E) W3 W4 := by rw [← hW4]; exact six_keeps _ _ _ _ _ _ _ _ (StrRow.no_blk bE3 (by decide))
      have hs4 : W4.heap.size = X + 1 := by rw [← hW4, six_size]; exact hs3
      have hb03 : Below wr.heap.size wr W3 := (hb1.trans (hb2.mono hs1)).trans (hb3.mono (by omega))
      have D4 : DiskIs O W4 c st := (hA.d.below hb03).keep k4 (fun k hk e => hA.oE (e ▸ hk))
      have DD4 : DiskIs Od W4 p std := (hA.dd.below hb03).keep k4 (fun k hk e => hA.odE (e ▸ hk))
      have hsep4 : ∀ k, Od k → ¬ O k ∨ StrRow W4 k := fun k hk => by
        rcases hA.sep k hk with h1 | h1
        · exact .inl h1
        · exact .inr ((h1.of_eq (hb03.block k (hA.od k hk))).of_eq (k4.rows k (h1.of_eq (hb03.block k (hA.od k hk)))))
      have hrow3 : RowIs W3 (.slice a2' n2 c2) q2 := HROW.out.1.below hb3
      have hrow4 : RowIs W4 (.slice a2' n2 c2) q2 := by rw [← hW4]; exact hrow3.six bE3 _ _ _ _ _ _
      have hrowd4 : RowIs W4 (.slice avd nqd cvd) qd := by rw [← hW4]; exact (hA.rowd.1.below hb03).six bE3 _ _ _ _ _ _
      have hbw4 : Below w.heap.size w W4 := by
        have e : Below w.heap.size w W3 := hA.below.trans (hb03.mono hsr)
        rw [← hW4]; exact six_below e (by have := hA.hE; omega) _ _ _ _ _ _
      have bB4 : Blk W4 Rb 40 (diskR rd (.slice avd nqd cvd)) := by
        have e := hA.bR.below hb03 hRlt
        rw [← hW4]; exact six_other e hA.hRE _ _ _ _ _ _
      have hok4 : OpOk W4 ⟨k, a, m, .slice va vl vc, l⟩ := HOK.out.below hbw4
      have hoA : ∀ k, O k → w.heap.size ≤ k ∧ k < wr.heap.size := hA.o
      have hW4' := hW4
      unfold six at hW4'
      rw [hW4']
      have hans2 := answers hA.rel HANS.out hok4.wa hok4.wn
      have hlen2 := do_len hA.rel.srt HANS.out
      have hfit2 := fit_do (k := k) (a := a) (l := l) hA.fit hok4.wn
      refine (does_any O c st (max room 0) (n1 + i) k a m (.slice va vl vc) l W4 D4 (fun k hk => by have := (hoA k hk).2; omega) hA.fit (by omega) (by omega) hok4.ints (fun b' o' n' c' e hn0 hO => by
        rcases HLV.out b' o' n' c' e with hh | hh
        · have := (hoA b' hO).1; omega
        · exact absurd hh hn0) hok4.bytes hok4.wk hok4.wa hok4.wn).mono ?_
      rintro e w5 ⟨rfl, K5, O', D5, hO'⟩
      rw [hans2.2]
      have hs5 := K5.size
      have hQO : ∀ k, Q (.slice a2' n2 c2) q2 k → ¬ O k := fun k hk ho => by
        rcases HQ2.out k hk with h1 | h1
        · exact hA.qo k (by rw [HNQ.out]; exact h1) ho
        · have := (hoA k ho).2; omega
      have hA5 : ApIn w E Rb p c std (doS st k a m l) Od O' rd ⟨z1, z2, z3, z4, z5, z6⟩ (.slice avd nqd cvd) (.slice a2' n2 c2) qd q2 (max room 0) (n1 + (i + 1)) w5 := by
        refine ⟨D5, fun k hk => ?_, fun hk => ?_, fun hk => ?_, hfit2, hans2.1, ⟨hrow4.keep K5 hQO, HROW.out.2⟩, fun k hk ho => ?_, by have := hA.len; dsimp only at this hlen2 ⊢; omega, ?_, ?_, hA.hE, hA.hRE, ?_, DiskIs.keep2 DD4 K5 hsep4, fun k hk => ?_, hA.odE, fun k hk => ?_, ⟨hrowd4.keep K5 hA.qod, hA.rowd.2⟩, hA.reld, hA.fitd, fun k hk ho => ?_⟩
        · rcases hO' k hk with h1 | h1
          · have := hoA k h1; omega
          · omega
        · rcases hO' _ hk with h1 | h1
          · exact hA.oR h1
          · omega
        · rcases hO' _ hk with h1 | h1
          · exact hA.oE h1
          · omega
        · rcases hO' k ho with h1 | h1
          · exact hQO k hk h1
          · have := Q.lt hrow4 hk; omega
        · unfold Blk at bB4 ⊢; rw [K5.block _ (Blk.lt bB4) hA.oR]; exact bB4
        · unfold Blk at bE4 ⊢; rw [K5.block _ (Blk.lt bE4) hA.oE]; exact bE4
        · exact K5.below hbw4 hbw4.size (fun k hk => (hoA k hk).1)
        · have := hA.od k hk; omega
        · rcases hsep4 k hk with h1 | h1
          · refine .inl (fun ho => ?_)
            rcases hO' k ho with h2 | h2
            · exact h1 h2
            · have := hA.od k hk; omega
          · exact .inr (h1.of_eq (K5.rows k h1))
        · rcases hO' k ho with h1 | h1
          · exact hA.qod k hk h1
          · have := Q.lt hrowd4 hk; omega
      have HA5 := Lib.hid hA5
      have hinext : IntKind.i64.wrap ((i : Int) + 1) = ((i + 1 : Nat) : Int) := IntWalk.i64_in _ (by omega)
      clear hA hb1 hb2 hb3 hs1 hs2 hs3 hsr bE4 k4 hs4 D4 hrow3 hrow4 hbw4 bB4 hok4 hoA hW4' hans2 hlen2 hfit2 hQO hA5 K5 D5 hO' hW4 hs5 e0 e1 e2 e3 e4 e5 f0 f1' f2 f3 f4 f5 x0 x1 x2 x3 x4 x5 g0 g1 g2 g3 bX3 bE3 bZ3 hRlt hb03 DD4 hsep4 hrowd4
      go_wp2_with fail
      refine ⟨⟨i + 1, O', _, _, q2, _, ?_, by omega, HWR2.out, HA5.out⟩, ?_⟩
      · first | rfl | congr 1
      · simp [intOf]; omega
    · have hin : i = n := by omega
      subst hin
      obtain ⟨av, cv, hv⟩ := hA.row.1.slice
      subst hv
      obtain ⟨nq, hnq⟩ : ∃ nq, q.length = nq := ⟨_, rfl⟩
      rw [hnq] at hA
      obtain ⟨room1, steps, left, armed, dead, rl⟩ := r
      have hrd := HRD.out
      subst hrd
      have bE1 : Blk wr E 40 #[.int .i64 room1, .int .i64 steps, .int .i64 left, .bool armed, .bool dead, .slice av nq cv] := hA.bE
      have bR1 : Blk wr Rb 40 #[.int .i64 roomd, .int .i64 stepsd, .int .i64 leftd, .bool armedd, .bool deadd, .slice avd nqd cvd] := hA.bR
      obtain ⟨a0', a1, a2, a3, a4, a5⟩ := blk6 bE1
      obtain ⟨e0, e1, e2, e3, e4, e5⟩ := blk6 bR1
      have HBE := Lib.hid bE1
      have HFV := Lib.hid (full_of' hWr)
      have hst1 := stands_any Od p std ⟨roomd, stepsd, leftd, armedd, deadd, rld⟩ (.slice avd nqd cvd) qd wr hA.dd hA.od hA.reld hA.rowd hA.fitd (full_of' HWR.out)
      have HA := Lib.hid hA
      clear hA hWr bE1 bR1
      go_wp2_with fail
      refine (hst1).mono ?_
      rintro e w7 ⟨rfl, hb7⟩
      have hA7 := HA.out
      obtain ⟨a0', a1, a2, a3, a4, a5⟩ := blk6 (HBE.out.below hb7 (Blk.lt HBE.out))
      have hst2 := stands_any O c st ⟨room1, steps, left, armed, dead, rl⟩ (.slice av nq cv) q w7 (hA7.d.below hb7) (fun k hk => by have := hA7.o k hk; have := hb7.size; omega) hA7.rel ⟨hA7.row.1.below hb7, hA7.row.2⟩ (by have := hA7.fit.C; omega) HFV.out
      have hbz := hA7.below.trans (hb7.mono hA7.below.size)
      clear hst1 hA7
      go_wp2_with fail
      refine (hst2).mono ?_
      rintro e w8 ⟨rfl, hb8⟩
      have hbz2 := hbz.trans (hb8.mono hbz.size)
      clear hst2
      go_wp2_with fail
      exact bodyPost_ret (results_tmp rfl _ _ _) rfl ⟨rfl, hbz2⟩
end Go.Proofs.Yteidmneenfdafaa.R
namespace Go.Proofs.Yteidmneenfdafaa.cDiskApart
open Go.ChangeShapes Go.WideShapes Go.ChangeAt Go.RowKit Aid
open Go.ChangeMaps (open_string shut_string)
open K R
set_option linter.unusedVariables false
set_option linter.unusedSimpArgs false
theorem own : ownKnob Try.prog.godebug = none := by kernel_rfl
theorem laidOut : laidOutB Try.prog = true := by kernel_rfl
theorem readable : ∀ t ∈ Try.f6.params.toList, Try.prog.readableRec t = true ∧ t < Try.prog.types.size := by
  intro t ht
  rw [Try.params6] at ht
  simp only [List.mem_cons, List.not_mem_nil, or_false] at ht
  rcases ht with rfl | rfl | rfl
  all_goals exact ⟨by kernel_rfl, of_decide_eq_true (by kernel_rfl)⟩
theorem bulk_pos {H : Type} (d : DataW H) : 1 ≤ Rows.uptoBulk d := by
  cases d with
  | lit l => cases l <;> simp [Rows.uptoBulk]
  | _ => simp [Rows.uptoBulk]
theorem bulk_len {H : Type} : ∀ (l : List (DataW H)), l.length ≤ Rows.uptoBulkAll l
  | [] => Nat.zero_le _
  | y :: l => by
    have h1 := bulk_pos y
    have h2 := bulk_len l
    simp only [Rows.uptoBulkAll, List.length_cons]
    omega
theorem ops_bulk {H : Type} {enc : TypeId × Value → H} {W : World} {v : Value} {d : DataW H} {p : List MemPlace} {n : Nat} {f : Nat → OpR}
    (h : DataW.Trod enc Try.prog W 0 (fun _ => true) true 22 v d p) (hO : OpsAre W v n f) : n ≤ Rows.uptoBulk d := by
  obtain ⟨a0, cap, hv, _⟩ := hO.2
  subst hv
  obtain ⟨fuel, hf⟩ := h
  rcases Go.Deep.open_slice Try.underlying22 hf with ⟨hcs, hx⟩ | ⟨a', len', cap', m, n', D, Pl, hcs, hab, hl, hm, hmm, hx, hel⟩
  · simp [Value.cells] at hcs
    omega
  · simp [Value.cells] at hcs
    obtain ⟨rfl, rfl, rfl⟩ := hcs
    simp only [Prod.mk.injEq] at hx
    rw [hx.1]
    simp only [Rows.uptoBulk]
    have := bulk_len ((List.range n).map D)
    simp only [List.length_map, List.length_range] at this
    omega
set_option maxRecDepth 100000 in
theorem contract (H : Type) (enc : TypeId × Value → H) (W : World) (base : Nat) (args : Array Value) (ds gs : List (DataW H)) (before : List MemPlace)
    (hval : ∀ (j : Nat) t v, Try.f6.params[j]? = some t → args[j]? = some v → Value.okWide Try.prog W .any base t v)
    (hW : DataW.Whole enc Try.prog Try.f6.params.toList Rows.diskApartSpec.vars false W args.toList ds gs before) (hk : Rows.uptoSmall H (ds ++ gs) = true)
    (hsz : (DataW.weightsEach Try.prog (Try.f6.params.toList ++ []) (ds ++ gs)).all (· ≤ reachBytes) = true) :
    Calls Try.prog 6 args W fun e W' => ∃ v, e = .returned v ∧ Rows.diskApartSpec.post enc Try.prog Try.f6 false true false false W args v W' := by
  have hW' := hW
  obtain ⟨p, q, hA0, hV, rfl, hfz, hnd⟩ := hW
  have hA : DataW.TrodAll enc Try.prog W 0 (fun _ => true) true Try.f6.params.toList args.toList ds p := hA0
  have hlt : ∀ x ∈ p, x.block < W.heap.size := fun x hx => by simpa using hW'.lt x (by simp [hx])
  rw [Try.params6] at hA hval hsz
  obtain ⟨v0, vs0, d0, ds0, p0, q0, hargs, rfl, rfl, h0, r0⟩ := trodAll_cons hA
  obtain ⟨v1, vs1, d1, ds1, p1, q1, rfl, rfl, rfl, h1, r1⟩ := trodAll_cons r0
  obtain ⟨v2, vs2, d2, ds2, p2, q2, rfl, rfl, rfl, h2, r2⟩ := trodAll_cons r1
  obtain ⟨rfl, rfl, rfl⟩ := trodAll_nil r2
  obtain rfl : args = #[v0, v1, v2] := by cases args; simp_all
  obtain ⟨rfl, rfl⟩ := trodVars_none hV
  clear hA0
  obtain ⟨room, rfl, rfl, rfl, wroom⟩ := open_int Try.underlying3 (hval 0 3 v0 rfl rfl) h0
  have cO : Try.prog.cellsOf 30 = 4 := by kernel_rfl
  have bO : Try.prog.bytesOf 30 = 48 := by kernel_rfl
  have bU : Try.prog.bytesOf 5 = 1 := by kernel_rfl
  obtain ⟨n1, f1, hOps1⟩ := OpsAre.arg Try.underlying22 Try.underlying30 cO rfl rfl rfl rfl (by kernel_rfl) (by kernel_rfl) (by kernel_rfl) (by kernel_rfl) Try.underlying3 Try.underlying27 Try.underlying3 Try.underlying28 Try.underlying5 (by kernel_rfl) bO bU (hval 1 22 v1 rfl rfl) h1 (fun x hx => hlt x (by simp [hx])) (fun x hx => by
    have := List.all_eq_true.1 hsz x (DataW.weights_mem_each (j := 1) (t := 22) rfl rfl x hx)
    simpa using this)
  obtain ⟨n2, f2, hOps2⟩ := OpsAre.arg Try.underlying22 Try.underlying30 cO rfl rfl rfl rfl (by kernel_rfl) (by kernel_rfl) (by kernel_rfl) (by kernel_rfl) Try.underlying3 Try.underlying27 Try.underlying3 Try.underlying28 Try.underlying5 (by kernel_rfl) bO bU (hval 2 22 v2 rfl rfl) h2 (fun x hx => hlt x (by simp [hx])) (fun x hx => by
    have := List.all_eq_true.1 hsz x (DataW.weights_mem_each (j := 2) (t := 22) rfl rfl x hx)
    simpa using this)
  have hk1 : Rows.uptoBulkAll _ ≤ 1048576 := of_decide_eq_true hk
  simp only [Rows.uptoBulkAll, Rows.uptoBulk, List.cons_append, List.nil_append, List.append_nil] at hk1
  have hb1 := ops_bulk h1 hOps1
  have hb2 := ops_bulk h2 hOps2
  refine (apart_law room v1 n1 f1 v2 n2 f2 W hOps1 hOps2 (by simp [Lit.wf, IntKind.min, IntKind.max, IntKind.signed, IntKind.bits] at wroom; omega) (by omega)).mono fun e W' ⟨he, hb⟩ => ⟨_, he, law_post 4 laidOut readable rfl Try.underlying4 rfl rfl hW' hb⟩
set_option maxRecDepth 100000 in
theorem lifted (os : Os) (started : os.Started) (H : Type) (enc : TypeId × Value → H) (F : Stop.Interp) :
    ReturnsInHanded {} Try.checked os 6 .any ((Rows.OpenSpec.upto Rows.diskApartSpec).pre6 enc Try.prog Try.f6 Rows.diskApartUptoRow.domain false) (((Rows.OpenSpec.upto Rows.diskApartSpec).at F).post enc Try.prog Try.f6 false true false false) := by
  refine returnsInHanded_of_cond_sized (C := Try.checked) (s := Rows.OpenSpec.upto Rows.diskApartSpec) (k := Rows.uptoSmall) rfl own started (by kernel_rfl) Try.func6
    (OpenSpec.witness (enc := enc) (C := Try.checked) (s := Rows.OpenSpec.upto Rows.diskApartSpec) (k := Rows.uptoSmall) rfl false ⟨#[], #[.int .i64 0, .slice none 0 0, .slice none 0 0], []⟩ 8 (by kernel_rfl) (by kernel_rfl) (by kernel_rfl)
      (x := ([.lit (.int .i64 0), .nil, .nil], [], [])) (by kernel_rfl) rfl (by kernel_rfl)) ?_
  intro W base args ds gs before hval hW _ hk hsz _
  exact contract H enc W base args ds gs before hval hW hk hsz
theorem said : Rows.DiskApartUptoSaid :=
  OpenClaim.holds_of_cond 6 Try.f6 rfl rfl rfl rfl rfl rfl rfl ⟨rfl, rfl, rfl, rfl, rfl⟩ rfl rfl rfl rfl rfl (by kernel_rfl) Try.func6 (by kernel_rfl)
    (of_decide_eq_true (by kernel_rfl)) (by unfold Func.isWrapper; first | (rw [if_pos (by decide +kernel)]; kernel_rfl) | (rw [if_neg (by decide +kernel)]; exact ⟨rfl, rfl⟩))
    (fun os started H enc _ F => lifted os started H enc F)
end Go.Proofs.Yteidmneenfdafaa.cDiskApart
