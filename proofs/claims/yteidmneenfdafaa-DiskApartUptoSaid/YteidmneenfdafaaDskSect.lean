/-
  Sectors: one more than an area's greatest; Read of what is not there.
-/
import Derived.Test.YteidmneenfdafaaDskSync
namespace Go.Proofs.Yteidmneenfdafaa.K
open Go.RowKit
open Aid
set_option linter.unusedSimpArgs false
set_option linter.unusedVariables false

set_option maxRecDepth 100000 in
set_option maxHeartbeats 1000000 in
theorem read_miss (O : Nat → Prop) (p : Nat) (st : DSt) (area n : Int) (w : World) (h : DiskIs O w p st) (ha : (Lit.int .u64 area).wf = true) (hn : (Lit.int .i64 n).wf = true) (hF : st.F area n = none) :
    Calls Try.prog 28 #[.pointer (some ⟨p, 0, none⟩), .int .u64 area, .int .i64 n] w fun e w' => e = .returned (.tuple #[.slice none 0 0, .bool false]) ∧ Below w.heap.size w w' := by
  obtain ⟨m, G, hD⟩ := h
  obtain ⟨c0, c1, c2, c3, c4⟩ := hD.cells
  have hL1 := hD.area ha
  obtain ⟨sv, sb, hL2, hsv⟩ := hD.sector (a := area) hn
  rw [hF] at hL2
  simp only [Option.isSome_none] at hL2
  have hb : ∀ sv : Value, Below w.heap.size w (w.alloc (.cells #[sv, .bool sb] 66)) := fun sv => (Below.refl _ _).alloc (Nat.le_refl _) _
  obtain ⟨a, l, c, rfl⟩ : ∃ a l c, sv = .slice a l c := by
    rcases hsv with ⟨_, e, _⟩ | ⟨s', e, _⟩
    · exact ⟨_, _, _, e⟩
    · rw [hF] at e; cases e
  clear hsv
  go_enter Try.func28, Try.ntmps28
  go_wp2_with fail
  go_ret2
  exact ⟨rfl, hb _⟩
/-- one more than the greatest -/
def SectIs (st : DSt) (area K : Int) : Prop := 0 ≤ K ∧ K ≤ 65536 ∧ (∀ x s, st.F area x = some s → x < K) ∧ (K = 0 ∨ ∃ s, st.F area (K - 1) = some s)
theorem SectIs.one {st st' : DSt} {area K K' : Int} (h : SectIs st area K) (h' : SectIs st' area K') (hF : ∀ x, (st.F area x).isSome = (st'.F area x).isSome) : K = K' := by
  have key : ∀ {st st' : DSt} {K K' : Int}, SectIs st area K → SectIs st' area K' → (∀ x, (st.F area x).isSome = (st'.F area x).isSome) → K ≤ K' := by
    intro st st' K K' h h' hF
    rcases h.2.2.2 with e | ⟨s, e⟩
    · have := h'.1; omega
    · have := hF (K - 1)
      rw [e] at this
      obtain ⟨s', hs'⟩ := Option.isSome_iff_exists.1 this.symm
      have := h'.2.2.1 _ _ hs'
      omega
  have h1 := key h h' hF
  have h2 := key h' h (fun x => (hF x).symm)
  omega
set_option maxRecDepth 100000 in
set_option maxHeartbeats 2000000 in
theorem sectors_any (O : Nat → Prop) (p : Nat) (st : DSt) (area : Int) (w : World) (h : DiskIs O w p st) (hO : ∀ k, O k → k < w.heap.size) (ha : (Lit.int .u64 area).wf = true) (hb : ∀ x s, st.F area x = some s → 0 ≤ x ∧ x < 65536) :
    Calls Try.prog 27 #[.pointer (some ⟨p, 0, none⟩), .int .u64 area] w fun e w' => ∃ K, e = .returned (.int .i64 K) ∧ SectIs st area K ∧ Below w.heap.size w w' := by
  obtain ⟨m, G, hD⟩ := h
  obtain ⟨c0, c1, c2, c3, c4⟩ := hD.cells
  have hL := hD.area ha
  have HBD := Lib.hid hb
  clear hb
  go_enter Try.func27, Try.ntmps27
  cases hg : G area with
  | none =>
    rw [hg] at hL
    have hrange := run_range_nilMap (P := Try.prog) w 68 _ _ Try.underlying68
    have hnext := run_next_nilMap (P := Try.prog) w 0
    have hno : ∀ x s, st.F area x = some s → x < 0 := fun x s e => by rw [(hD.empty area hg).1 x] at e; cases e
    go_wp2_with fail
    go_loopw [5] (fun x5 wr => x5 = .int .i64 0 ∧ wr = w.alloc (.mapIter none 0 #[] 0)) (fun _ _ => 0)
    case atStart => exact ⟨rfl, rfl⟩
    case round =>
      obtain ⟨rfl, rfl⟩ := hrel
      go_wp2_with fail
      go_ret
      exact ⟨0, rfl, ⟨Int.le_refl _, by omega, hno, .inl rfl⟩, (Below.refl _ _).alloc (Nat.le_refl _) _⟩
  | some g =>
    rw [hg] at hL
    obtain ⟨og, gm, S, hS, hfS⟩ := hD.inner area g hg
    obtain ⟨D0, hown0, hsz0, hfD0⟩ := hS
    obtain ⟨w2, hrange, hr2, hg2, hs2⟩ := hown0.range (Maps.int_keyed Try.underlying3) Try.underlying68
    obtain ⟨r, hr⟩ : ∃ r, w.heap.size = r := ⟨_, rfl⟩
    rw [hr] at hrange hr2 hs2
    have HB2 := Lib.hid (show Below w.heap.size w w2 from ⟨hg2.os, hg2.tape, hg2.output, hg2.size, fun k hk => hg2.block k hk (by simp)⟩)
    have hsome : ∀ x, (Lit.int .i64 x).wf = true → (Maps.has D0 (.int .i64 x) = true ↔ (st.F area x).isSome = true) := fun x hx => by
      rw [(hfD0 x hx).1]
      cases hF : st.F area x with
      | none => rw [(hfS x).1 hF]; simp
      | some s => obtain ⟨v, e1, _⟩ := (hfS x).2 s hF; rw [e1]; simp
    have HSOME := Lib.hid hsome
    clear hsome
    go_wp2_with fail
    go_loopw [5] (fun x5 wr => ∃ (left : Lit → Bool) (D : DataW Value) (cnt : Nat) (K : Int), x5 = .int .i64 K ∧ wr.ranges Try.prog 3 rid g r (st.N area) D left cnt ∧ Below r w wr ∧ 0 ≤ K ∧ K ≤ 65536 ∧ (∀ x s, st.F area x = some s → left (.int .i64 x) = false → x < K) ∧ (K = 0 ∨ ∃ s, st.F area (K - 1) = some s) ∧ (∀ x, (Lit.int .i64 x).wf = true → left (.int .i64 x) = true → (st.F area x).isSome = true)) (fun _ wr => wr.rangeLeft g r)
    case atStart =>
      refine ⟨_, D0, _, 0, rfl, hr2, by rw [← hr]; exact HB2.out, Int.le_refl _, by omega, fun x s hx hl => ?_, .inl rfl, fun x hx hl => (HSOME.out x hx).1 hl⟩
      have h1 := HBD.out x s hx
      have hw : (Lit.int .i64 x).wf = true := by simp [Lit.wf, IntKind.min, IntKind.max, IntKind.signed, IntKind.bits]; omega
      have := (HSOME.out x hw).2 (by rw [hx]; rfl)
      rw [this] at hl; cases hl
    case round =>
      obtain ⟨left, D, cnt, K, rfl, hrg, hB, hK0, hK1, hseen, hlast, hleft⟩ := hrel
      rcases hrg.next (Maps.int_keyed Try.underlying3) 0 with ⟨hc0, hno, hnx⟩ | ⟨key, v, kl, y, w3, cnt', hkey, hlk, hry, hat, hnx, hrg3, hcl, hg3, hs3, hen⟩
      · have HF := Lib.hid (⟨K, rfl, ⟨hK0, hK1, fun x s hx => hseen x s hx (hno _), hlast⟩, (by rw [hr]; exact hB)⟩ : ∃ K', Ending.returned (.int .i64 K) = .returned (.int .i64 K') ∧ SectIs st area K' ∧ Below w.heap.size w wr)
        clear hseen hlast hleft hno
        go_wp2_with fail
        go_ret
        exact HF.out
      · obtain ⟨x, rfl, rfl, hxw⟩ := Maps.keyOf_int_inv Try.underlying3 hkey
        obtain ⟨s, hFs⟩ : ∃ s, st.F area x = some s := Option.isSome_iff_exists.1 (hleft x hxw hlk)
        have hxb := HBD.out x s hFs
        have hB3 : Below r w w3 := hB.trans ⟨hg3.os, hg3.tape, hg3.output, hg3.size, fun k hk => hg3.block k (by have := hB.size; omega) (by simp; omega)⟩
        have hwr : IntKind.i64.wrap (x + 1) = x + 1 := IntWalk.i64_in _ (by omega)
        have HSEEN := Lib.hid hseen
        have HLAST := Lib.hid hlast
        have HLEFT := Lib.hid hleft
        have HFS := Lib.hid hFs
        obtain ⟨va, hva⟩ : ∃ va, v = va := ⟨_, rfl⟩
        clear hseen hlast hleft hFs
        go_wp2_with fail
        refine ⟨⟨_, D, cnt', if K < x + 1 then x + 1 else K, rfl, hrg3, hB3, by split <;> omega, by split <;> omega, fun z s' hz hl => ?_, ?_, fun z hz hl => ?_⟩, ?_⟩
        · by_cases hzx : z = x
          · subst hzx; split <;> omega
          · have hl2 : left (.int .i64 z) = false := by
              have e : (Lit.int .i64 z).sameKey (.int .i64 x) = false := by simp [Lit.sameKey, hzx]
              simpa [e] using hl
            have := HSEEN.out z s' hz hl2
            split <;> omega
        · split
          · right
            exact ⟨s, by rw [show x + 1 - 1 = x by omega]; exact HFS.out⟩
          · exact HLAST.out
        · simp at hl
          exact HLEFT.out z hz hl.1
        · rw [hrg3.left_eq, hrg.left_eq]; exact hcl
end Go.Proofs.Yteidmneenfdafaa.K
