/-
  The walk of Write.
-/
import Derived.Test.YtcpkpljeimbdiaaGreatDskSmall
import Derived.Test.YtcpkpljeimbdiaaGreatAidC
namespace Go.Proofs.YtcpkpljeimbdiaaGreat.K
open Go.RowKit
open Aid
set_option linter.unusedSimpArgs false
set_option linter.unusedVariables false

theorem zero_area (w : World) : (zeroValue 62).run Tryz.prog w = .ok (.map none) w := by
  obtain ⟨i, hi, hz⟩ : ∃ i, Tryz.prog.info? 62 = some i ∧ i.zero = some (.map none) := by
    have h : (Tryz.prog.info? 62).map (·.zero) = some (some (.map none)) := by kernel_rfl
    cases hq : Tryz.prog.info? 62 with
    | none => rw [hq] at h; cases h
    | some i => rw [hq] at h; simp at h; exact ⟨i, rfl, h⟩
  simp [zeroValue, typeInfo, hi, hz]
theorem zero_sector (w : World) : (zeroValue 68).run Tryz.prog w = .ok (.agg #[.slice none 0 0, .bool false]) w := by
  obtain ⟨i, hi, hz⟩ : ∃ i, Tryz.prog.info? 68 = some i ∧ i.zero = some (.agg #[.slice none 0 0, .bool false]) := by
    have h : (Tryz.prog.info? 68).map (·.zero) = some (some (.agg #[.slice none 0 0, .bool false])) := by kernel_rfl
    cases hq : Tryz.prog.info? 68 with
    | none => rw [hq] at h; cases h
    | some i => rw [hq] at h; simp at h; exact ⟨i, rfl, h⟩
  simp [zeroValue, typeInfo, hi, hz]

/-- the map of an area, looked up -/
theorem DiskIn.area {O : Nat → Prop} {w : World} {p m : Nat} {G : Int → Option Nat} {st : DSt} (h : DiskIn O w p m G st) {a : Int} (ha : (Lit.int .u64 a).wf = true) :
    (Instr.lookup 45 (.map (some m)) (.int .u64 a) false).run Tryz.prog w = .ok (.map (G a)) w := by
  have := h.outer.get Tryz.underlying37 Tryz.underlying45 (zero_area w) ha
  rw [this]
  cases G a <;> rfl
/-- a sector, looked up -/
theorem DiskIn.sector {O : Nat → Prop} {w : World} {p m : Nat} {G : Int → Option Nat} {st : DSt} (h : DiskIn O w p m G st) {a n : Int} (hn : (Lit.int .i64 n).wf = true) :
    ∃ v b, (Instr.lookup 62 (.map (G a)) (.int .i64 n) true).run Tryz.prog w = .ok (.tuple #[.agg #[v, .bool b], .bool (st.F a n).isSome]) w ∧
      (st.F a n = none ∧ v = .slice none 0 0 ∧ b = false ∨ ∃ s, st.F a n = some s ∧ b = s.2 ∧ Vers O w v s.1 ∧ s.1 ≠ []) := by
  cases hg : G a with
  | none =>
    have he := (h.empty a hg).1 n
    refine ⟨.slice none 0 0, false, ?_, .inl ⟨he, rfl, rfl⟩⟩
    rw [he]
    exact Maps.look_nil true (Maps.int_keyed Tryz.underlying3) Tryz.underlying62 (zero_sector w) (Maps.keyOf_int_mk Tryz.underlying3 hn)
  | some g =>
    obtain ⟨_, _, S, hS, hf⟩ := h.inner a g hg
    have hl := hS.look Tryz.underlying3 Tryz.underlying62 (zero_sector w) hn
    cases hF : st.F a n with
    | none =>
      rw [(hf n).1 hF] at hl
      exact ⟨.slice none 0 0, false, hl, .inl ⟨rfl, rfl, rfl⟩⟩
    | some s =>
      obtain ⟨v, e1, e2, e3⟩ := (hf n).2 s hF
      rw [e1] at hl
      exact ⟨v, s.2, hl, .inr ⟨s, rfl, rfl, e2, e3⟩⟩
/-- 64 bytes of which the first are given -/
def whole (l : List UInt8) : ByteArray := ⟨(l ++ List.replicate (64 - l.length) 0).toArray⟩

set_option maxRecDepth 100000 in
set_option maxHeartbeats 2000000 in
theorem write_bad (O : Nat → Prop) (p : Nat) (st : DSt) (area n : Int) (v : Value) (l : List Int) (w : World) (h : DiskIs O w p st) (hI : Ints w .u8 v l) (ha : (Lit.int .u64 area).wf = true) (hn : (Lit.int .i64 n).wf = true)
    (hbad : st.dead = true ∨ (n < 0 ∨ 65536 ≤ n ∨ 64 < l.length) ∨ (st.F area n = none ∧ st.room = 0)) :
    Calls Tryz.prog 57 #[.pointer (some ⟨p, 0, none⟩), .int .u64 area, .int .i64 n, v] w fun e w' => e = .returned (.int .i64 (if st.dead = true then 30 else if (n < 0 ∨ 65536 ≤ n ∨ 64 < l.length) then 31 else 32)) ∧ Below w.heap.size w w' := by
  obtain ⟨m, G, hD⟩ := h
  obtain ⟨c0, c1, c2, c3, c4⟩ := hD.cells
  have h63 := hI.1
  obtain ⟨a5, c5, rfl⟩ := Ints.form hI
  have hL1 := hD.area ha
  obtain ⟨sv, sb, hL2, hsv⟩ := hD.sector (a := area) hn
  obtain ⟨av, cv, ln, rfl⟩ : ∃ a c n, sv = .slice a n c := by
    rcases hsv with ⟨_, h, _⟩ | ⟨s, _, _, ⟨_, a, c, h, _⟩, _⟩
    · exact ⟨none, 0, 0, h⟩
    · exact ⟨_, _, _, h⟩
  obtain ⟨g0, hg0⟩ : ∃ g0, G area = g0 := ⟨_, rfl⟩
  rw [hg0] at hL1 hL2
  have hb : Below w.heap.size w (w.alloc (.cells #[.slice av ln cv, .bool sb] 68)) := (Below.refl _ _).alloc (Nat.le_refl _) _
  have hp := Blk.lt hD.blk
  have k0 := (hb.cell (p := ⟨p, 0, none⟩) hp).trans c0
  have k4 := (hb.cell (p := ⟨p, 4, none⟩) hp).trans c4
  cases hd : st.dead
  · rw [hd] at k4
    by_cases h1 : n < 0
    · have hr : (n < 0 ∨ 65536 ≤ n ∨ 64 < l.length) := .inl h1
      have HR := Lib.hid hr
      clear hr hbad
      go_enter Tryz.func57, Tryz.ntmps57
      go_wp2_with fail
      go_ret
      exact ⟨ret_i (by simp [HR.out]), hb⟩
    · by_cases h2 : 65536 ≤ n
      · have hr : (n < 0 ∨ 65536 ≤ n ∨ 64 < l.length) := .inr (.inl h2)
        have HR := Lib.hid hr
        clear hr hbad
        go_enter Tryz.func57, Tryz.ntmps57
        go_wp2_with fail
        go_ret
        exact ⟨ret_i (by simp [HR.out]), hb⟩
      · by_cases h3 : (64 : Int) < (l.length : Int)
        · have hr : (n < 0 ∨ 65536 ≤ n ∨ 64 < l.length) := .inr (.inr (by omega))
          have HR := Lib.hid hr
          clear hr hbad
          go_enter Tryz.func57, Tryz.ntmps57
          go_wp2_with fail
          go_ret
          exact ⟨ret_i (by simp [HR.out]), hb⟩
        · have hr : ¬ (n < 0 ∨ 65536 ≤ n ∨ 64 < l.length) := by omega
          have HR := Lib.hid hr
          obtain ⟨hF, hroom⟩ : st.F area n = none ∧ st.room = 0 := by
            rcases hbad with h | h | h
            · rw [hd] at h; cases h
            · exact absurd h hr
            · exact h
          rw [hF] at hL2
          rw [hroom] at k0
          simp only [Option.isSome_none] at hL2
          clear hr hbad
          go_enter Tryz.func57, Tryz.ntmps57
          go_wp2_with fail
          go_ret
          exact ⟨ret_i (by simp [HR.out]), hb⟩
  · rw [hd] at k4
    go_enter Tryz.func57, Tryz.ntmps57
    go_wp2_with fail
    go_ret
    exact ⟨rfl, hb⟩
end Go.Proofs.YtcpkpljeimbdiaaGreat.K
