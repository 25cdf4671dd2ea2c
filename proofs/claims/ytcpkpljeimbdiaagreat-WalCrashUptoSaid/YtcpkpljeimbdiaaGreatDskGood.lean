/-
  The walk of Write where it is well.
-/
import Derived.Test.YtcpkpljeimbdiaaGreatDskOps
import Derived.Laws.CopyOwn
import Derived.Deep.RegionHeldLaw
import Derived.Deep.RegionHeld3
import Derived.Deep.RegionLawGrows
namespace Go.Proofs.YtcpkpljeimbdiaaGreat.K
open Go.RowKit
open Aid
set_option linter.unusedSimpArgs false
set_option linter.unusedVariables false

set_option maxRecDepth 100000 in
theorem clip_any (a : Option Addr) (n c : Nat) (w : World) (hn : n ≤ c) (ha : a = none → n = 0) (h63 : n ≤ 140737488355328) : Calls Tryz.prog 69 #[.slice a n c] w fun e w' => e = .returned (.slice a n n) ∧ w' = w := by
  have z1 : (0 : Int) ≤ (n : Int) := by omega
  have z2 : (n : Int) ≤ (c : Int) := by omega
  cases a with
  | none =>
    obtain rfl := ha rfl
    go_enter Tryz.func69, Tryz.ntmps69
    go_wp2_with fail
    go_ret
    exact ⟨rfl, rfl⟩
  | some b =>
    go_enter Tryz.func69, Tryz.ntmps69
    go_wp2_with fail
    go_ret
    exact ⟨rfl, rfl⟩
def u8 (x : Int) : UInt8 := UInt8.ofNat x.toNat
theorem u8_int {x : Int} (h0 : 0 ≤ x) (h1 : x ≤ 255) : ((u8 x).toNat : Int) = x := by
  unfold u8
  rw [UInt8.toNat_ofNat']; omega
/-- 64 bytes of which the first are given -/
def wholeI (l : List Int) : ByteArray := whole (l.map u8)

theorem blk2 {w : World} {g : Nat} {t : TypeId} {x y : Value} (h : Blk w g t #[x, y]) : w.cell? ⟨g, 0, none⟩ = some x ∧ w.cell? ⟨g, 1, none⟩ = some y :=
  ⟨by rw [Blk.cell h]; rfl, by rw [Blk.cell h]; rfl⟩
theorem below_alloc1 (w : World) (o : Obj) : Below w.heap.size w (w.drew.alloc o) := (Below.refl w.heap.size w).drew.alloc (Nat.le_refl _) o
theorem Vers.src {O : Nat → Prop} {w : World} {a : Option Addr} {n c : Nat} {L : List ByteArray} (h : Vers O w (.slice a n c) L) : ∀ b, a = some b → ∀ j u, (L.map Value.string)[j]? = some u → w.cell? (b.add j) = some u := by
  obtain ⟨_, a', cap, hv, _, _, hh⟩ := h
  simp at hv
  obtain ⟨rfl, _⟩ := hv
  intro b hb j u hj
  have hj' : j < L.length := by have := (List.getElem?_eq_some_iff.1 hj).1; simpa using this
  obtain ⟨q, o, e1, _, _, e4⟩ := hh j hj'
  rw [hb] at e1
  obtain rfl := Option.some.inj e1
  have : (⟨q, o, none⟩ : Addr).add j = ⟨q, o + j, none⟩ := by unfold Addr.add; split <;> simp_all
  rw [this, e4]
  simpa [List.getD_eq_getElem?_getD, hj'] using hj
theorem vers_own {w : World} {base : Nat} {gv cp n : Nat} {L : List ByteArray} {x : ByteArray} (h : w.ownsRow base 9 1 (.slice (some ⟨gv, 0, none⟩) n cp) n (L.map .string ++ [.string x])) (hL : L.length < 4398046511104) : Vers (fun k => k = gv) w (.slice (some ⟨gv, 0, none⟩) n cp) (L ++ [x]) := by
  have hn : n = (L ++ [x]).length := by have := h.1; simp at this ⊢; omega
  have hlt := (h.lt gv rfl).2
  have hsr : StrRow w gv := by
    rcases h.2 with ⟨h1, _⟩ | ⟨g, cap, cur, hv, _, hg, hc, _⟩
    · cases h1
    · simp at hv
      obtain ⟨rfl, _⟩ := hv
      exact ⟨cur, (0, 0), hg⟩
  have hcap : n ≤ cp := by
    rcases h.2 with ⟨h1, _⟩ | ⟨g, cap, cur, hv, _, _, hc, _⟩
    · cases h1
    · simp at hv; omega
  refine ⟨by simp; omega, some ⟨gv, 0, none⟩, cp, by rw [hn], by omega, fun e => (by cases e), fun j hj => ⟨gv, 0, rfl, ⟨rfl, hsr⟩, hlt, ?_⟩⟩
  have hc := h.cells (g := gv) rfl j (.string ((L ++ [x]).getD j ByteArray.empty)) (by
    have e1 : L.map Value.string ++ [Value.string x] = (L ++ [x]).map .string := by simp
    rw [e1, List.getElem?_map, List.getElem?_eq_getElem hj, List.getD_eq_getElem?_getD, List.getElem?_eq_getElem hj]; rfl)
  rw [Aid.add_plain] at hc
  rw [Nat.zero_add]; exact hc
/-- what a well Write makes of a disk -/
def writeF (st : DSt) (area n : Int) (l : List Int) : DSt :=
  match st.F area n with
  | some (L, s) => stepF (putS st area n (L ++ [wholeI l], s))
  | none => stepF (putS (if st.A area = true then { st with room := st.room - 1 } else openA { st with room := st.room - 1 } area) area n ([wholeI l], false))
def WriteEnd (O : Nat → Prop) (p : Nat) (st' : DSt) (w : World) (e : Ending) (w' : World) : Prop :=
  e = .returned (.int .i64 (if st'.dead = true then 30 else 0)) ∧ Keeps O w w' ∧ ∃ O', DiskIs O' w' p st' ∧ ∀ k, O' k → O k ∨ (w.heap.size ≤ k ∧ k < w'.heap.size)
theorem ints_kept {O : Nat → Prop} {w w' : World} {k : IntKind} {v : Value} {l : List Int} (h : Ints w k v l) (hK : Keeps O w w') (hO : ∀ b o n c, v = .slice (some ⟨b, o, none⟩) n c → n ≠ 0 → ¬ O b) : Ints w' k v l := by
  obtain ⟨h0, h | ⟨b, off, cap, hv, hlt, hc⟩⟩ := h
  · exact ⟨h0, .inl h⟩
  · exact ⟨h0, .inr ⟨b, off, cap, hv, by have := hK.size; omega, fun j hj => (hK.cell (p := ⟨b, off + j, none⟩) hlt (hO _ _ _ _ hv (by omega))).trans (hc j hj)⟩⟩
theorem ints_src {w : World} {k : IntKind} {a : Option Addr} {n c : Nat} {l : List Int} (h : Ints w k (.slice a n c) l) (hl : 0 < l.length) : ∃ ad, a = some ad ∧ ∀ j v, (l.map (Value.int k))[j]? = some v → w.cell? (ad.add j) = some v := by
  obtain ⟨_, ⟨rfl, _⟩ | ⟨b, off, cap, hv, _, hc⟩⟩ := h
  · simp at hl
  · simp at hv
    refine ⟨⟨b, off, none⟩, hv.1, fun j v hj => ?_⟩
    have hj' : j < l.length := by have := (List.getElem?_eq_some_iff.1 hj).1; simpa using this
    have : (⟨b, off, none⟩ : Addr).add j = ⟨b, off + j, none⟩ := by unfold Addr.add; split <;> simp_all
    rw [this, hc j hj']
    simpa [List.getD_eq_getElem?_getD, hj'] using hj
theorem ints_one (l : List Int) : ∀ v ∈ l.map (Value.int .u8), v.oneCell' = true := by
  intro v hv; obtain ⟨x, _, rfl⟩ := List.mem_map.1 hv; rfl
theorem info_whole : ∃ i, Tryz.prog.info? 119 = some i ∧ i.zero = some (.agg (u8A 64 fun _ => 0)) := by
  have h : (Tryz.prog.info? 119).map (·.zero) = some (some (.agg (u8A 64 fun _ => 0))) := by kernel_rfl
  cases hq : Tryz.prog.info? 119 with
  | none => rw [hq] at h; cases h
  | some i => rw [hq] at h; simp at h; exact ⟨i, rfl, h⟩
/-- 64 cells of which the first are given -/
def wholeC (l : List Int) : Array Value := ((l ++ List.replicate (64 - l.length) 0).map (Value.int .u8)).toArray
theorem wholeC_zero : u8A 64 (fun _ => 0) = wholeC [] := by kernel_rfl
theorem zeros_list : (u8A 64 fun _ => 0).toList = List.replicate 64 (Value.int .u8 0) := by kernel_rfl
theorem copy_run {w : World} {T c : Nat} {a : Option Addr} {l : List Int} (hT : Blk w T 119 (u8A 64 fun _ => 0)) (hI : Ints w .u8 (.slice a l.length c) l) (h64 : l.length ≤ 64) (hu : (Tryz.prog.info? 5).map (·.size) = some 1) :
    ∃ w' k, (Builtin.copy_ #[49, 49] 3 #[.slice (some ⟨T, 0, none⟩) 64 64, .slice a l.length c]).run Tryz.prog w = .ok (.int .i64 k) w' ∧ Blk w' T 119 (wholeC l) ∧ Below T w w' := by
  by_cases h0 : l.length = 0
  · obtain rfl : l = [] := List.eq_nil_of_length_eq_zero h0
    exact ⟨w, _, run_copy_none (P := Tryz.prog) w _ _ _ 5 (some ⟨T, 0, none⟩) a 64 64 0 c Tryz.underlying49 hu (by simp), by rw [← wholeC_zero]; exact hT, Below.refl _ _⟩
  · obtain ⟨ad, rfl, hsrc⟩ := ints_src hI (by omega)
    have hrun := run_copy_row (P := Tryz.prog) w 49 49 3 5 T 0 64 64 ad l.length c (u8A 64 fun _ => 0) 119 (l.map (.int .u8)) Tryz.underlying49 hu hT (by rw [List.length_map]; exact (Nat.min_eq_left h64).symm) hsrc (by simp [u8A_size]; omega) (ints_one l)
    refine ⟨_, _, hrun, ?_, below_setRow (Below.refl _ _) (Nat.le_refl _) _⟩
    have hr := Blk.row hT (List.take 0 (u8A 64 fun _ => 0).toList ++ l.map (Value.int .u8) ++ (u8A 64 fun _ => 0).toList.drop (0 + (l.map (Value.int .u8)).length)).toArray
    have e : (List.take 0 (u8A 64 fun _ => 0).toList ++ l.map (Value.int .u8) ++ (u8A 64 fun _ => 0).toList.drop (0 + (l.map (Value.int .u8)).length)).toArray = wholeC l := by
      rw [zeros_list]
      simp only [List.take_zero, List.nil_append, Nat.zero_add, List.length_map, List.drop_replicate]
      unfold wholeC
      rw [List.map_append, List.map_replicate]
    rw [e] at hr ⊢; exact hr
theorem conv_run {T : Nat} {l : List Int} (h64 : l.length ≤ 64) (hl : ∀ x ∈ l, 0 ≤ x ∧ x ≤ 255) (w : World) (hT : Blk w T 119 (wholeC l)) : (convert 49 9 (.slice (some ⟨T, 0, none⟩) 64 64)).run Tryz.prog w = .ok (.string (wholeI l)) w := by
  have hlen : (l.map u8 ++ List.replicate (64 - (l.map u8).length) 0).length = 64 := by simp; omega
  have := run_convert_bytes_back (P := Tryz.prog) w 49 9 5 ⟨T, 0, none⟩ 64 (l.map u8 ++ List.replicate (64 - (l.map u8).length) 0) Tryz.underlying49 Tryz.underlying5 Tryz.underlying9 (fun j hj => by
    have : (⟨T, 0, none⟩ : Addr).add j = ⟨T, j, none⟩ := by unfold Addr.add; split <;> simp_all
    rw [this, Blk.cell hT]
    unfold wholeC
    simp only [List.getElem?_toArray, List.map_append, List.map_replicate]
    by_cases hjl : j < l.length
    · rw [List.getElem?_append_left (by simpa using hjl), List.getElem_append_left (by simpa using hjl)]
      simp only [List.getElem?_map, List.getElem_map, List.getElem?_eq_getElem hjl, Option.map_some]
      have hx := hl _ (List.getElem_mem hjl)
      rw [u8_int hx.1 hx.2]
    · rw [List.getElem?_append_right (by simp; omega), List.getElem_append_right (by simp; omega)]
      rw [hlen] at hj
      rw [List.getElem?_replicate, if_pos (by simp; omega), List.getElem_replicate]
      rfl)
  rw [hlen] at this
  exact this
theorem size_u8 : (Tryz.prog.info? 5).map (·.size) = some 1 := by kernel_rfl

set_option maxRecDepth 100000 in
set_option maxHeartbeats 4000000 in
theorem write_good (O : Nat → Prop) (p : Nat) (st : DSt) (area n : Int) (v : Value) (l : List Int) (w : World) (h : DiskIs O w p st) (hO : ∀ k, O k → k < w.heap.size) (hI : Ints w .u8 v l) (hIO : ∀ b o n c, v = .slice (some ⟨b, o, none⟩) n c → n ≠ 0 → ¬ O b) (hl255 : ∀ x ∈ l, 0 ≤ x ∧ x ≤ 255) (ha : (Lit.int .u64 area).wf = true) (hn : (Lit.int .i64 n).wf = true)
    (hd : st.dead = false) (h1 : 0 ≤ n) (h2 : n < 65536) (h3 : l.length ≤ 64) (hok : (st.F area n).isSome = true ∨ st.room ≠ 0) (hroom : -4611686018427387904 ≤ st.room ∧ st.room ≤ 9223372036854775807) (hs : 0 ≤ st.steps ∧ st.steps ≤ 4611686018427387904) (hleft : st.left ≤ 9223372036854775807) (hN : st.N area < 140737488355327) (hC : st.C < 140737488355327) (hV : ∀ Lv sb, st.F area n = some (Lv, sb) → Lv.length < 4398046511104) :
    Calls Tryz.prog 57 #[.pointer (some ⟨p, 0, none⟩), .int .u64 area, .int .i64 n, v] w (WriteEnd O p (writeF st area n l) w) := by
  obtain ⟨m, G, hD⟩ := h
  obtain ⟨c0, c1, c2, c3, c4⟩ := hD.cells
  have h63 := hI.1
  obtain ⟨a5, c5, rfl⟩ := Ints.form hI
  have hL1 := hD.area ha
  obtain ⟨sv, sb, hL2, hsv⟩ := hD.sector (a := area) hn
  obtain ⟨av, ln, cv, rfl⟩ : ∃ a n c, sv = .slice a n c := by
    rcases hsv with ⟨_, h, _⟩ | ⟨s, _, _, ⟨_, a, c, h, _⟩, _⟩
    · exact ⟨none, 0, 0, h⟩
    · exact ⟨_, _, _, h⟩
  obtain ⟨Lv, hVw, hFs⟩ : ∃ Lv, Vers O w (.slice av ln cv) Lv ∧ (st.F area n = none ∧ Lv = [] ∧ sb = false ∨ st.F area n = some (Lv, sb)) := by
    rcases hsv with ⟨e1, e2, e3⟩ | ⟨s, e1, e2, e3, _⟩
    · exact ⟨[], ⟨by simp, none, 0, by simpa using e2, Nat.le_refl _, fun _ => ⟨rfl, rfl⟩, fun j hj => by simp at hj⟩, .inl ⟨e1, rfl, e3⟩⟩
    · exact ⟨s.1, e3, .inr (by rw [e1, e2])⟩
  have hlv : ln = Lv.length ∧ Lv.length ≤ cv ∧ (av = none → Lv = []) ∧ Lv.length ≤ 140737488355328 := by
    obtain ⟨f0, a, c, f1, f2, f3, _⟩ := hVw
    simp at f1
    obtain ⟨rfl, rfl, rfl⟩ := f1
    exact ⟨rfl, f2, fun e => (f3 e).1, f0⟩
  obtain ⟨rfl, hlc, hlnil, hlv63⟩ := hlv
  have hln0 : av = none → Lv.length = 0 := fun e => by rw [hlnil e]; rfl
  clear hsv
  obtain ⟨Q, hQ⟩ : ∃ Q, w.heap.size = Q := ⟨_, rfl⟩
  have hb : Below Q w (w.alloc (.cells #[.slice av Lv.length cv, .bool sb] 68)) := by rw [← hQ]; exact (Below.refl _ _).alloc (Nat.le_refl _) _
  have hp : p < Q := by rw [← hQ]; exact Blk.lt hD.blk
  have D1 : DiskIn O (w.alloc (.cells #[.slice av Lv.length cv, .bool sb] 68)) p m G st := hD.keep (O' := fun _ => False) (Keeps.of_below (by rw [hQ]; exact hb)) (fun _ _ h => h)
  obtain ⟨k0, k1, k2, k3, k4⟩ := D1.cells
  have hL3 := D1.area ha
  have bQ : Blk (w.alloc (.cells #[.slice av Lv.length cv, .bool sb] 68)) Q 68 #[.slice av Lv.length cv, .bool sb] := by rw [← hQ]; exact Blk.alloc_new _ _ _
  have hI1 := hI.below (by rw [hQ]; exact hb)
  rw [hd] at c4 k4
  have g1 : ¬ n < 0 := by omega
  have g2 : ¬ 65536 ≤ n := by omega
  have g3 : ¬ (64 : Int) < (l.length : Int) := by omega
  cases hF : (st.F area n).isSome
  · rw [hF] at hL2
    have hF0 : st.F area n = none := by
      cases h : st.F area n with
      | none => rfl
      | some s => rw [h] at hF; cases hF
    obtain ⟨HLv, HSb⟩ : Hid (Lv = []) ∧ Hid (sb = false) := by
      rcases hFs with ⟨_, e1, e2⟩ | e
      · exact ⟨e1, e2⟩
      · rw [hF0] at e; cases e
    have HFs := Lib.hid hFs
    clear hFs
    have hroom0 : st.room ≠ 0 := by
      rcases hok with h | h
      · rw [hF] at h; cases h
      · exact h
    have hr0 : (st.room == 0) = false := by rw [beq_eq_false_iff_ne]; exact hroom0
    have hw1 : IntKind.i64.wrap (st.room - 1) = st.room - 1 := IntWalk.i64_in _ (by omega)
    have f0 := Blk.free D1.blk 0
    have hpQ : p ≠ Q := by omega
    have eqW : ((w.alloc (.cells #[.slice av Lv.length cv, .bool sb] 68)).setCell ⟨p, 0, none⟩ (.int .i64 (st.room - 1))) = ((w.setCell ⟨p, 0, none⟩ (.int .i64 (st.room - 1))).alloc (.cells #[.slice av Lv.length cv, .bool sb] 68)) := World.setCell_alloc_past _ _ _ _ (by omega)
    have D2 : DiskIn O ((w.setCell ⟨p, 0, none⟩ (.int .i64 (st.room - 1))).alloc (.cells #[.slice av Lv.length cv, .bool sb] 68)) p m G { st with room := st.room - 1 } := eqW ▸ D1.turn (by have := D1.blk.set 0 (.int .i64 (st.room - 1)); exact this) (fun k hk => Below.heap_setCell _ _ _ _ hk) (by simp) rfl rfl rfl rfl
    obtain ⟨x0, x1, x2, x3, x4⟩ := D2.cells
    have hL4 := D2.area ha
    have bQX : Blk ((w.setCell ⟨p, 0, none⟩ (.int .i64 (st.room - 1))).alloc (.cells #[.slice av Lv.length cv, .bool sb] 68)) Q 68 #[.slice av Lv.length cv, .bool sb] := eqW ▸ Blk.other bQ hpQ _
    have hIX : Ints ((w.setCell ⟨p, 0, none⟩ (.int .i64 (st.room - 1))).alloc (.cells #[.slice av Lv.length cv, .bool sb] 68)) .u8 (.slice a5 l.length c5) l := ints_kept hI (eqW ▸ set_keeps (Keeps.of_below (by rw [hQ]; exact hb)) hD.op (StrRow.no_blk D1.blk (by decide))) hIO
    have hsX : ((w.setCell ⟨p, 0, none⟩ (.int .i64 (st.room - 1))).alloc (.cells #[.slice av Lv.length cv, .bool sb] 68)).heap.size = Q + 1 := by simp [hQ]
    have hKX : Keeps O w ((w.setCell ⟨p, 0, none⟩ (.int .i64 (st.room - 1))).alloc (.cells #[.slice av Lv.length cv, .bool sb] 68)) := eqW ▸ set_keeps (Keeps.of_below (by rw [hQ]; exact hb)) hD.op (StrRow.no_blk D1.blk (by decide))
    have hVX : Vers O ((w.setCell ⟨p, 0, none⟩ (.int .i64 (st.room - 1))).alloc (.cells #[.slice av Lv.length cv, .bool sb] 68)) (.slice av Lv.length cv) Lv := by
      obtain ⟨f0, a, c, f1, f2, f3, _⟩ := hVw
      exact ⟨f0, a, c, f1, f2, f3, fun j hj => by rw [HLv.out] at hj; simp at hj⟩
    cases hg : G area with
    | some g =>
      rw [hg] at hL1 hL2 hL3 hL4
      have hq : ∀ w : World, (binOp .eql 62 (.map (some g)) (.map none)).run Tryz.prog w = .ok (.bool false) w := fun w => run_eql_map_nil w _ _ _ (some g) Tryz.underlying62
      have hAt : st.A area = true := by rw [hD.present area, hg]; rfl
      have HWF : Hid (writeF st area n l = stepF (putS { st with room := st.room - 1 } area n (Lv ++ [wholeI l], sb))) := by
        show _ = _
        unfold writeF
        rw [hF0, HLv.out, HSb.out]; simp [hAt]
      obtain ⟨T, hTT⟩ : ∃ T, Q + 1 = T := ⟨_, rfl⟩
      have hsW : ((w.setCell ⟨p, 0, none⟩ (.int .i64 (st.room - 1))).alloc (.cells #[.slice av Lv.length cv, .bool sb] 68)).heap.size = T := by rw [← hTT]; exact hsX
      obtain ⟨O5, G5, D5, hg5, hO5Q, hO5sub, hV5⟩ : ∃ O5 G5, DiskIn O5 ((w.setCell ⟨p, 0, none⟩ (.int .i64 (st.room - 1))).alloc (.cells #[.slice av Lv.length cv, .bool sb] 68)) p m G5 { st with room := st.room - 1 } ∧ G5 area = some g ∧ (∀ k, O5 k → k ≠ Q ∧ k < T) ∧ (∀ k, O5 k → O k ∨ Q ≤ k) ∧ Vers O5 ((w.setCell ⟨p, 0, none⟩ (.int .i64 (st.room - 1))).alloc (.cells #[.slice av Lv.length cv, .bool sb] 68)) (.slice av Lv.length cv) Lv :=
        ⟨O, G, D2, hg, fun k hk => (by have := hO k hk; omega), fun k hk => .inl hk, hVX⟩
      have hg := hg5
      have hK5 := hKX
      have bQW := bQX
      have hIW := hIX
      have hs5 : 0 ≤ (putS { st with room := st.room - 1 } area n (Lv ++ [wholeI l], sb)).steps ∧ (putS { st with room := st.room - 1 } area n (Lv ++ [wholeI l], sb)).steps ≤ 4611686018427387904 := hs
      have hl5 : (putS { st with room := st.room - 1 } area n (Lv ++ [wholeI l], sb)).left ≤ 9223372036854775807 := hleft
      have hTQ : Q < T := by omega
      obtain ⟨iw, hiw, hzw⟩ := info_whole
      have hu8 := size_u8
      go_enter Tryz.func57, Tryz.ntmps57
      go_wp2_with (first
        | (refine wpList_allocN _ (by rfl) _ rfl iw hiw _ hzw ?_; intro w6 hT hb6 hs6; have bQ6 := Blk.below bQW hb6 (by rw [hsW]; omega); have hI6 := hIW.below hb6; have hT' : Blk w6 T 119 (u8A 64 fun _ => 0) := (by rw [← hsW]; exact hT); obtain ⟨w7, kc, hrun7, hT7, hb7⟩ := copy_run hT' hI6 h3 hu8; have bQ7 := Blk.below bQ6 hb7 (by omega)))

      have hQ7 := (blk2 bQ7).1
      have hconv := conv_run (T := T) h3 hl255
      refine wp_region_noPanic ?_
      have hQlt : Q < w7.heap.size := Blk.lt bQ7
      obtain ⟨js, hjs, hjz, hjn, hjb⟩ := info_parts (show (Tryz.prog.info? 9).map (fun i => (i.zero, i.size, i.bytes)) = some (some (.string .empty), 1, 16) by kernel_rfl)
      have hlv42 : Lv.length < 4398046511104 := by
        rcases HFs.out with ⟨_, e, _⟩ | e
        · rw [e]; simp
        · exact hV Lv sb e
      have holds : ∀ b, av = some b → ∀ j u, (Lv.map Value.string)[j]? = some u → (w7.drew.alloc (.cells #[.string (wholeI l)] 9)).cell? (b.add j) = some u := by
        have hb57 : Below T ((w.setCell ⟨p, 0, none⟩ (.int .i64 (st.room - 1))).alloc (.cells #[.slice av Lv.length cv, .bool sb] 68)) (w7.drew.alloc (.cells #[.string (wholeI l)] 9)) := (by rw [← hsW]; exact hb6.trans ((hb7.mono (by omega)).trans ((below_alloc1 w7 _).mono (by have := hb7.size; omega))))
        exact (hV5.keep (O' := fun _ => False) (Keeps.of_below (by rw [hsW]; exact hb57)) (fun _ _ h => h)).src
      have hnewx : ∀ j u, [Value.string (wholeI l)][j]? = some u → (w7.drew.alloc (.cells #[.string (wholeI l)] 9)).cell? ((⟨w7.heap.size, 0, none⟩ : Addr).add j) = some u := by
        intro j u hj
        match j, hj with
        | 0, hj => simp at hj; subst hj; exact cell_new w7.drew _ _ _ rfl
        | j + 1, hj => simp at hj
      have hTlt : T < w7.heap.size := Blk.lt hT7
      refine wp_region_held_drew (S := fun w' => Blk w' T 119 (wholeC l)) (by kernel_rfl) hT7 (fun hHeld => ?_)
      refine wpAnyH_take (i := 0) (v := .pointer (some ⟨Q, 0, none⟩)) rfl (by kernel_rfl) (by kernel_rfl) (by kernel_rfl) (fun _ _ _ h => h) (.inl ⟨by rfl, by intro w hSw; go_simp⟩) hHeld ?_
      simp only [Act.put, List.getElem_toArray, List.getElem_cons_succ, List.getElem_cons_zero, List.setIfInBounds_toArray, List.set_cons_zero, List.set_cons_succ]
      refine wpAnyH_take (i := 3) (v := .slice (some ⟨T, 0, none⟩) 64 64) rfl (by kernel_rfl) (by kernel_rfl) (by kernel_rfl) (fun _ _ _ h => h) (.inl ⟨by rfl, by intro w hSw; go_simp⟩) hHeld ?_
      simp only [Act.put, List.getElem_toArray, List.getElem_cons_succ, List.getElem_cons_zero, List.setIfInBounds_toArray, List.set_cons_zero, List.set_cons_succ]
      refine wpAnyH_take (i := 4) (v := .string (wholeI l)) rfl (by kernel_rfl) (by kernel_rfl) (by kernel_rfl) (fun _ _ _ h => h) (.inl ⟨by rfl, by intro w hSw; have hx := hconv w hSw; go_simp⟩) hHeld ?_
      simp only [Act.put, List.getElem_toArray, List.getElem_cons_succ, List.getElem_cons_zero, List.setIfInBounds_toArray, List.set_cons_zero, List.set_cons_succ]
      have hQd : w7.drew.cell? ⟨Q, 0, none⟩ = some (.slice av Lv.length cv) := hQ7
      have hQx : (w7.drew.alloc (.cells #[.string (wholeI l)] 9)).cell? ⟨Q, 0, none⟩ = some (.slice av Lv.length cv) := ((below_alloc1 w7 (.cells #[.string (wholeI l)] 9)).cell (p := ⟨Q, 0, none⟩) hQlt).trans hQ7
      have hTx : Blk (w7.drew.alloc (.cells #[.string (wholeI l)] 9)) T 119 (wholeC l) := Blk.below hT7 (below_alloc1 w7 (.cells #[.string (wholeI l)] 9)) hTlt
      refine wpAnyH_ready (rs := [1, 5]) (by kernel_rfl) (by simp) ?_
      refine AllReadyH.cons rfl (fun K hK => ?_) (AllReadyH.cons rfl (fun K hK => ?_) AllReadyH.nil)
      · go_simp
        refine hK.out _ _ hT7 (fun hHeld => ?_)
        clear hK K
        refine wpAnyH_ready (rs := [2, 5]) (by kernel_rfl) (by simp) ?_
        refine AllReadyH.cons rfl (fun K hK => ?_) (AllReadyH.cons rfl (fun K hK => ?_) AllReadyH.nil)
        · go_simp
          refine (clip_any av Lv.length cv _ hlc hln0 (by omega)).mono ?_
          rintro e wz ⟨rfl, rfl⟩
          refine hK.out _ _ hT7 (fun hHeld => ?_)
          clear hK K
          refine wpAnyH_ready (rs := [5]) (by kernel_rfl) (by simp) ?_
          refine AllReadyH.cons rfl (fun K hK => ?_) AllReadyH.nil
          go_simp
          refine hK.out _ _ hTx (fun hHeld => ?_)
          clear hK K
          refine wpAnyH_ready (rs := [6]) (by kernel_rfl) (by simp) ?_
          refine AllReadyH.cons rfl (fun K hK => ?_) AllReadyH.nil
          refine step_append_grows rfl _ _ 38 rfl 9 js (.string .empty) 1 16 Tryz.underlying38 hjs hjz hjn hjb rfl (by decide) av Lv.length Lv.length (Lv.map .string) rfl (fun e => ⟨hln0 e, hln0 e⟩) (by simp) holds ⟨w7.heap.size, 0, none⟩ 1 1 [.string (wholeI l)] rfl rfl hnewx (by intro u hu; simp at hu; subst hu; rfl) (by omega) (by unfold maxLen; omega) (by omega) ?_
          intro v8 w8 hown8 hg8
          obtain ⟨gv, cp, hv8, hgv⟩ : ∃ gv cp, v8 = .slice (some ⟨gv, 0, none⟩) (Lv.length + 1) cp ∧ w7.heap.size ≤ gv := by
            rcases hown8.2 with ⟨_, h0⟩ | ⟨q, cap, _, hv, hb, _⟩
            · omega
            · exact ⟨q, cap, hv, Nat.le_trans (below_alloc1 w7 (.cells #[.string (wholeI l)] 9)).size hb⟩
          subst hv8
          have hb8 : Below w7.heap.size w7 w8 := (below_alloc1 w7 (.cells #[.string (wholeI l)] 9)).trans ((below_of_grown hg8 (Nat.le_refl _) (fun k hk => by cases hk)).mono (below_alloc1 w7 (.cells #[.string (wholeI l)] 9)).size)
          have bT8 := Blk.below hT7 hb8 hTlt
          have bQ8 := Blk.below bQ7 hb8 hQlt
          have qQ8 := (blk2 bQ8).1
          have fQ8 := Blk.free bQ8 0
          have hV8 : Vers (fun k => k = gv) w8 (.slice (some ⟨gv, 0, none⟩) (Lv.length + 1) cp) (Lv ++ [wholeI l]) := vers_own hown8 (by omega)
          refine hK.out _ _ bT8 (fun hHeld => ?_)
          clear hK K
          refine wpAnyH_take (i := 7) (v := .pointer (some ⟨Q, 0, none⟩)) rfl (by kernel_rfl) (by kernel_rfl) (by kernel_rfl) (fun _ _ _ h => h) (.inl ⟨by rfl, by intro w hSw; go_simp⟩) hHeld ?_
          simp only [Act.put, List.getElem_toArray, List.getElem_cons_succ, List.getElem_cons_zero, List.setIfInBounds_toArray, List.set_cons_zero, List.set_cons_succ]
          refine wpAnyH_ready (rs := [8]) (by kernel_rfl) (by simp) ?_
          refine AllReadyH.cons rfl (fun K hK => ?_) AllReadyH.nil
          go_simp
          refine hK.out _ _ (Blk.other bT8 (by show Q ≠ T; omega) _) (fun hHeld => ?_)
          clear hK K
          refine wpAnyH_done (by kernel_rfl) ?_ _
          refine NoPanic.normal ?_
          have hs8 := hb8.size
          have hb58 : Below T ((w.setCell ⟨p, 0, none⟩ (.int .i64 (st.room - 1))).alloc (.cells #[.slice av Lv.length cv, .bool sb] 68)) w8 := (by rw [← hsW]; exact hb6.trans ((hb7.mono (by omega)).trans (hb8.mono (by have := hb7.size; omega))))
          have K58 : Keeps (fun _ => False) ((w.setCell ⟨p, 0, none⟩ (.int .i64 (st.room - 1))).alloc (.cells #[.slice av Lv.length cv, .bool sb] 68)) w8 := Keeps.of_below (by rw [hsW]; exact hb58)
          have K89 : Keeps (fun k => k = Q) w8 (w8.setCell ⟨Q, 0, none⟩ (.slice (some ⟨gv, 0, none⟩) (Lv.length + 1) cp)) := set_keeps (Keeps.refl _ _) rfl (StrRow.no_blk bQ8 (by decide))
          have D8 := D5.keep K58 (fun _ _ h => h)
          have D9 := (D8.keep K89 (fun k hk e => (hO5Q k hk).1 e)).mono (O' := fun k => O5 k ∨ k = gv) (fun k hk => .inl hk)
          have V9 := (hV8.keep K89 (fun k hk e => by omega)).mono (O' := fun k => O5 k ∨ k = gv) (fun k hk => .inr hk)
          have q0 : (w8.setCell ⟨Q, 0, none⟩ (.slice (some ⟨gv, 0, none⟩) (Lv.length + 1) cp)).cell? ⟨Q, 0, none⟩ = some (.slice (some ⟨gv, 0, none⟩) (Lv.length + 1) cp) := by rw [Blk.cell (bQ8.set 0 _)]; rfl
          have q1 : (w8.setCell ⟨Q, 0, none⟩ (.slice (some ⟨gv, 0, none⟩) (Lv.length + 1) cp)).cell? ⟨Q, 1, none⟩ = some (.bool sb) := by rw [Blk.cell (bQ8.set 0 _)]; rfl
          have hs9 := K89.size
          obtain ⟨w9, hw9⟩ : ∃ w9, w8.setCell ⟨Q, 0, none⟩ (.slice (some ⟨gv, 0, none⟩) (Lv.length + 1) cp) = w9 := ⟨_, rfl⟩
          rw [hw9] at D9 V9 q0 q1 K89 hs9
          simp only [hw9]
          clear hw9
          have Kd : Keeps (fun _ => False) w9 w9.drew := Keeps.of_below ((Below.refl _ _).drew)
          have D9d := D9.keep Kd (fun _ _ h => h)
          have V9d := V9.keep Kd (fun _ _ h => h)
          obtain ⟨w10, hrun10, D10, K10⟩ := D9d.put hg hn (Nat.lt_of_lt_of_le hN (by unfold maxLen; omega)) (s := sb) V9d (by simp)
          have hnQ : ¬ (O5 Q ∨ Q = gv) := by
            rintro (h | h)
            · exact (hO5Q Q h).1 rfl
            · omega
          have hgv9 : gv < w9.heap.size := by
            obtain ⟨_, _, _, hv, _, _, hh⟩ := V9
            simp at hv
            obtain ⟨b', o', e1, _, e3, _⟩ := hh 0 (by simp)
            rw [← hv.1] at e1
            simp at e1
            omega
          have hQ9 : Q < w9.heap.size := by omega
          go_wp2_with fail
          refine wp_region_noPanic ?_
          refine wp_region_held_drew (S := fun w' => w'.cell? ⟨p, 2, none⟩ = some (.map (some m)) ∧ (Instr.lookup 45 (.map (some m)) (.int .u64 area) false).run Tryz.prog w' = .ok (.map (some g)) w' ∧ w'.cell? ⟨Q, 0, none⟩ = some (.slice (some ⟨gv, 0, none⟩) (Lv.length + 1) cp) ∧ w'.cell? ⟨Q, 1, none⟩ = some (.bool sb)) (by kernel_rfl) ⟨D9d.cells.2.2.1, (by have := D9d.area ha; rw [hg] at this; exact this), q0, q1⟩ (fun hHeld => ?_)
          refine wpAnyH_take (i := 0) (v := .pointer (some ⟨p, 0, none⟩)) rfl (by kernel_rfl) (by kernel_rfl) (by kernel_rfl) (fun _ _ _ h => h) (.inl ⟨by rfl, by intro w hSw; go_simp⟩) hHeld ?_
          simp only [Act.put, List.getElem_toArray, List.getElem_cons_succ, List.getElem_cons_zero, List.setIfInBounds_toArray, List.set_cons_zero, List.set_cons_succ]
          refine wpAnyH_take (i := 1) (v := .pointer (some ⟨p, 0, none⟩)) rfl (by kernel_rfl) (by kernel_rfl) (by kernel_rfl) (fun _ _ _ h => h) (.inl ⟨by rfl, by intro w hSw; go_simp⟩) hHeld ?_
          simp only [Act.put, List.getElem_toArray, List.getElem_cons_succ, List.getElem_cons_zero, List.setIfInBounds_toArray, List.set_cons_zero, List.set_cons_succ]
          refine wpAnyH_take (i := 2) (v := .pointer (some ⟨p, 2, none⟩)) rfl (by kernel_rfl) (by kernel_rfl) (by kernel_rfl) (fun _ _ _ h => h) (.inl ⟨by rfl, by intro w hSw; go_simp⟩) hHeld ?_
          simp only [Act.put, List.getElem_toArray, List.getElem_cons_succ, List.getElem_cons_zero, List.setIfInBounds_toArray, List.set_cons_zero, List.set_cons_succ]
          refine wpAnyH_take (i := 3) (v := .map (some m)) rfl (by kernel_rfl) (by kernel_rfl) (by kernel_rfl) (fun _ _ _ h => h) (.inl ⟨by rfl, by intro w hSw; have hx := hSw.1; go_simp⟩) hHeld ?_
          simp only [Act.put, List.getElem_toArray, List.getElem_cons_succ, List.getElem_cons_zero, List.setIfInBounds_toArray, List.set_cons_zero, List.set_cons_succ]
          refine wpAnyH_take (i := 4) (v := .int .u64 area) rfl (by kernel_rfl) (by kernel_rfl) (by kernel_rfl) (fun _ _ _ h => h) (.inl ⟨by rfl, by intro w hSw; go_simp⟩) hHeld ?_
          simp only [Act.put, List.getElem_toArray, List.getElem_cons_succ, List.getElem_cons_zero, List.setIfInBounds_toArray, List.set_cons_zero, List.set_cons_succ]
          refine wpAnyH_take (i := 5) (v := .map (some g)) rfl (by kernel_rfl) (by kernel_rfl) (by kernel_rfl) (fun _ _ _ h => h) (.inl ⟨by rfl, by intro w hSw; have hx := hSw.2.1; go_simp⟩) hHeld ?_
          simp only [Act.put, List.getElem_toArray, List.getElem_cons_succ, List.getElem_cons_zero, List.setIfInBounds_toArray, List.set_cons_zero, List.set_cons_succ]
          refine wpAnyH_take (i := 6) (v := .int .i64 n) rfl (by kernel_rfl) (by kernel_rfl) (by kernel_rfl) (fun _ _ _ h => h) (.inl ⟨by rfl, by intro w hSw; go_simp⟩) hHeld ?_
          simp only [Act.put, List.getElem_toArray, List.getElem_cons_succ, List.getElem_cons_zero, List.setIfInBounds_toArray, List.set_cons_zero, List.set_cons_succ]
          refine wpAnyH_take (i := 7) (v := .agg #[.slice (some ⟨gv, 0, none⟩) (Lv.length + 1) cp, .bool sb]) rfl (by kernel_rfl) (by kernel_rfl) (by kernel_rfl) (fun _ _ _ h => h) (.inl ⟨by rfl, by intro w hSw; have hx := hSw.2.2.1; have hy := hSw.2.2.2; go_simp⟩) hHeld ?_
          simp only [Act.put, List.getElem_toArray, List.getElem_cons_succ, List.getElem_cons_zero, List.setIfInBounds_toArray, List.set_cons_zero, List.set_cons_succ]
          refine wpAnyH_ready (rs := [8]) (by kernel_rfl) (by simp) ?_
          refine AllReadyH.cons rfl (fun K hK => ?_) AllReadyH.nil
          go_simp
          refine hK.out _ _ ⟨D10.cells.2.2.1, (by have := D10.area ha; rw [hg] at this; exact this), (K10.cell (p := ⟨Q, 0, none⟩) hQ9 hnQ).trans q0, (K10.cell (p := ⟨Q, 1, none⟩) hQ9 hnQ).trans q1⟩ (fun hHeld => ?_)
          clear hK K
          refine wpAnyH_done (by kernel_rfl) ?_ _
          refine NoPanic.normal ?_
          go_wp2_with fail
          refine (step_in _ p m G5 _ w10 D10 hs5 hl5).mono ?_
          rintro e w11 ⟨rfl, D11, K11⟩
          rw [← HWF.out] at D11 ⊢
          cases hdd : (writeF st area n l).dead
          all_goals
            go_wp2_with fail
            go_ret
            refine ⟨ret_i (by rw [hdd]; rfl), ?_, fun k => O5 k ∨ k = gv, ⟨m, G5, D11⟩, ?_⟩
            · have hsub : ∀ x, (O5 x ∨ x = gv) → O x ∨ w.heap.size ≤ x := fun x hx => by
                rcases hx with hx | hx
                · rcases hO5sub x hx with h | h
                  · exact .inl h
                  · right; rw [hQ]; omega
                · right; rw [hQ]; omega
              refine Keeps.trans (Keeps.trans (Keeps.trans (Keeps.trans (Keeps.trans hK5 K58 (fun _ h => h.elim)) K89 (fun x hx => .inr (by rw [hQ]; omega))) Kd (fun _ h => h.elim)) K10 hsub) K11 hsub
            · intro k hk
              rcases hk with hk | hk
              · rcases hO5sub k hk with h | h
                · exact .inl h
                · right
                  have h6 := (hO5Q k hk).2
                  have := K10.size
                  have := K11.size
                  have : w9.drew.heap.size = w9.heap.size := rfl
                  rw [hQ]; omega
              · right
                have := K10.size
                have := K11.size
                have : w9.drew.heap.size = w9.heap.size := rfl
                rw [hQ]; omega
        · go_simp
          refine hK.out _ _ hTx (fun hHeld => ?_)
          clear hK K
          refine wpAnyH_ready (rs := [2]) (by kernel_rfl) (by simp) ?_
          refine AllReadyH.cons rfl (fun K hK => ?_) AllReadyH.nil
          go_simp
          refine (clip_any av Lv.length cv _ hlc hln0 (by omega)).mono ?_
          rintro e wz ⟨rfl, rfl⟩
          refine hK.out _ _ hTx (fun hHeld => ?_)
          clear hK K
          refine wpAnyH_ready (rs := [6]) (by kernel_rfl) (by simp) ?_
          refine AllReadyH.cons rfl (fun K hK => ?_) AllReadyH.nil
          refine step_append_grows rfl _ _ 38 rfl 9 js (.string .empty) 1 16 Tryz.underlying38 hjs hjz hjn hjb rfl (by decide) av Lv.length Lv.length (Lv.map .string) rfl (fun e => ⟨hln0 e, hln0 e⟩) (by simp) holds ⟨w7.heap.size, 0, none⟩ 1 1 [.string (wholeI l)] rfl rfl hnewx (by intro u hu; simp at hu; subst hu; rfl) (by omega) (by unfold maxLen; omega) (by omega) ?_
          intro v8 w8 hown8 hg8
          obtain ⟨gv, cp, hv8, hgv⟩ : ∃ gv cp, v8 = .slice (some ⟨gv, 0, none⟩) (Lv.length + 1) cp ∧ w7.heap.size ≤ gv := by
            rcases hown8.2 with ⟨_, h0⟩ | ⟨q, cap, _, hv, hb, _⟩
            · omega
            · exact ⟨q, cap, hv, Nat.le_trans (below_alloc1 w7 (.cells #[.string (wholeI l)] 9)).size hb⟩
          subst hv8
          have hb8 : Below w7.heap.size w7 w8 := (below_alloc1 w7 (.cells #[.string (wholeI l)] 9)).trans ((below_of_grown hg8 (Nat.le_refl _) (fun k hk => by cases hk)).mono (below_alloc1 w7 (.cells #[.string (wholeI l)] 9)).size)
          have bT8 := Blk.below hT7 hb8 hTlt
          have bQ8 := Blk.below bQ7 hb8 hQlt
          have qQ8 := (blk2 bQ8).1
          have fQ8 := Blk.free bQ8 0
          have hV8 : Vers (fun k => k = gv) w8 (.slice (some ⟨gv, 0, none⟩) (Lv.length + 1) cp) (Lv ++ [wholeI l]) := vers_own hown8 (by omega)
          refine hK.out _ _ bT8 (fun hHeld => ?_)
          clear hK K
          refine wpAnyH_take (i := 7) (v := .pointer (some ⟨Q, 0, none⟩)) rfl (by kernel_rfl) (by kernel_rfl) (by kernel_rfl) (fun _ _ _ h => h) (.inl ⟨by rfl, by intro w hSw; go_simp⟩) hHeld ?_
          simp only [Act.put, List.getElem_toArray, List.getElem_cons_succ, List.getElem_cons_zero, List.setIfInBounds_toArray, List.set_cons_zero, List.set_cons_succ]
          refine wpAnyH_ready (rs := [8]) (by kernel_rfl) (by simp) ?_
          refine AllReadyH.cons rfl (fun K hK => ?_) AllReadyH.nil
          go_simp
          refine hK.out _ _ (Blk.other bT8 (by show Q ≠ T; omega) _) (fun hHeld => ?_)
          clear hK K
          refine wpAnyH_done (by kernel_rfl) ?_ _
          refine NoPanic.normal ?_
          have hs8 := hb8.size
          have hb58 : Below T ((w.setCell ⟨p, 0, none⟩ (.int .i64 (st.room - 1))).alloc (.cells #[.slice av Lv.length cv, .bool sb] 68)) w8 := (by rw [← hsW]; exact hb6.trans ((hb7.mono (by omega)).trans (hb8.mono (by have := hb7.size; omega))))
          have K58 : Keeps (fun _ => False) ((w.setCell ⟨p, 0, none⟩ (.int .i64 (st.room - 1))).alloc (.cells #[.slice av Lv.length cv, .bool sb] 68)) w8 := Keeps.of_below (by rw [hsW]; exact hb58)
          have K89 : Keeps (fun k => k = Q) w8 (w8.setCell ⟨Q, 0, none⟩ (.slice (some ⟨gv, 0, none⟩) (Lv.length + 1) cp)) := set_keeps (Keeps.refl _ _) rfl (StrRow.no_blk bQ8 (by decide))
          have D8 := D5.keep K58 (fun _ _ h => h)
          have D9 := (D8.keep K89 (fun k hk e => (hO5Q k hk).1 e)).mono (O' := fun k => O5 k ∨ k = gv) (fun k hk => .inl hk)
          have V9 := (hV8.keep K89 (fun k hk e => by omega)).mono (O' := fun k => O5 k ∨ k = gv) (fun k hk => .inr hk)
          have q0 : (w8.setCell ⟨Q, 0, none⟩ (.slice (some ⟨gv, 0, none⟩) (Lv.length + 1) cp)).cell? ⟨Q, 0, none⟩ = some (.slice (some ⟨gv, 0, none⟩) (Lv.length + 1) cp) := by rw [Blk.cell (bQ8.set 0 _)]; rfl
          have q1 : (w8.setCell ⟨Q, 0, none⟩ (.slice (some ⟨gv, 0, none⟩) (Lv.length + 1) cp)).cell? ⟨Q, 1, none⟩ = some (.bool sb) := by rw [Blk.cell (bQ8.set 0 _)]; rfl
          have hs9 := K89.size
          obtain ⟨w9, hw9⟩ : ∃ w9, w8.setCell ⟨Q, 0, none⟩ (.slice (some ⟨gv, 0, none⟩) (Lv.length + 1) cp) = w9 := ⟨_, rfl⟩
          rw [hw9] at D9 V9 q0 q1 K89 hs9
          simp only [hw9]
          clear hw9
          have Kd : Keeps (fun _ => False) w9 w9.drew := Keeps.of_below ((Below.refl _ _).drew)
          have D9d := D9.keep Kd (fun _ _ h => h)
          have V9d := V9.keep Kd (fun _ _ h => h)
          obtain ⟨w10, hrun10, D10, K10⟩ := D9d.put hg hn (Nat.lt_of_lt_of_le hN (by unfold maxLen; omega)) (s := sb) V9d (by simp)
          have hnQ : ¬ (O5 Q ∨ Q = gv) := by
            rintro (h | h)
            · exact (hO5Q Q h).1 rfl
            · omega
          have hgv9 : gv < w9.heap.size := by
            obtain ⟨_, _, _, hv, _, _, hh⟩ := V9
            simp at hv
            obtain ⟨b', o', e1, _, e3, _⟩ := hh 0 (by simp)
            rw [← hv.1] at e1
            simp at e1
            omega
          have hQ9 : Q < w9.heap.size := by omega
          go_wp2_with fail
          refine wp_region_noPanic ?_
          refine wp_region_held_drew (S := fun w' => w'.cell? ⟨p, 2, none⟩ = some (.map (some m)) ∧ (Instr.lookup 45 (.map (some m)) (.int .u64 area) false).run Tryz.prog w' = .ok (.map (some g)) w' ∧ w'.cell? ⟨Q, 0, none⟩ = some (.slice (some ⟨gv, 0, none⟩) (Lv.length + 1) cp) ∧ w'.cell? ⟨Q, 1, none⟩ = some (.bool sb)) (by kernel_rfl) ⟨D9d.cells.2.2.1, (by have := D9d.area ha; rw [hg] at this; exact this), q0, q1⟩ (fun hHeld => ?_)
          refine wpAnyH_take (i := 0) (v := .pointer (some ⟨p, 0, none⟩)) rfl (by kernel_rfl) (by kernel_rfl) (by kernel_rfl) (fun _ _ _ h => h) (.inl ⟨by rfl, by intro w hSw; go_simp⟩) hHeld ?_
          simp only [Act.put, List.getElem_toArray, List.getElem_cons_succ, List.getElem_cons_zero, List.setIfInBounds_toArray, List.set_cons_zero, List.set_cons_succ]
          refine wpAnyH_take (i := 1) (v := .pointer (some ⟨p, 0, none⟩)) rfl (by kernel_rfl) (by kernel_rfl) (by kernel_rfl) (fun _ _ _ h => h) (.inl ⟨by rfl, by intro w hSw; go_simp⟩) hHeld ?_
          simp only [Act.put, List.getElem_toArray, List.getElem_cons_succ, List.getElem_cons_zero, List.setIfInBounds_toArray, List.set_cons_zero, List.set_cons_succ]
          refine wpAnyH_take (i := 2) (v := .pointer (some ⟨p, 2, none⟩)) rfl (by kernel_rfl) (by kernel_rfl) (by kernel_rfl) (fun _ _ _ h => h) (.inl ⟨by rfl, by intro w hSw; go_simp⟩) hHeld ?_
          simp only [Act.put, List.getElem_toArray, List.getElem_cons_succ, List.getElem_cons_zero, List.setIfInBounds_toArray, List.set_cons_zero, List.set_cons_succ]
          refine wpAnyH_take (i := 3) (v := .map (some m)) rfl (by kernel_rfl) (by kernel_rfl) (by kernel_rfl) (fun _ _ _ h => h) (.inl ⟨by rfl, by intro w hSw; have hx := hSw.1; go_simp⟩) hHeld ?_
          simp only [Act.put, List.getElem_toArray, List.getElem_cons_succ, List.getElem_cons_zero, List.setIfInBounds_toArray, List.set_cons_zero, List.set_cons_succ]
          refine wpAnyH_take (i := 4) (v := .int .u64 area) rfl (by kernel_rfl) (by kernel_rfl) (by kernel_rfl) (fun _ _ _ h => h) (.inl ⟨by rfl, by intro w hSw; go_simp⟩) hHeld ?_
          simp only [Act.put, List.getElem_toArray, List.getElem_cons_succ, List.getElem_cons_zero, List.setIfInBounds_toArray, List.set_cons_zero, List.set_cons_succ]
          refine wpAnyH_take (i := 5) (v := .map (some g)) rfl (by kernel_rfl) (by kernel_rfl) (by kernel_rfl) (fun _ _ _ h => h) (.inl ⟨by rfl, by intro w hSw; have hx := hSw.2.1; go_simp⟩) hHeld ?_
          simp only [Act.put, List.getElem_toArray, List.getElem_cons_succ, List.getElem_cons_zero, List.setIfInBounds_toArray, List.set_cons_zero, List.set_cons_succ]
          refine wpAnyH_take (i := 6) (v := .int .i64 n) rfl (by kernel_rfl) (by kernel_rfl) (by kernel_rfl) (fun _ _ _ h => h) (.inl ⟨by rfl, by intro w hSw; go_simp⟩) hHeld ?_
          simp only [Act.put, List.getElem_toArray, List.getElem_cons_succ, List.getElem_cons_zero, List.setIfInBounds_toArray, List.set_cons_zero, List.set_cons_succ]
          refine wpAnyH_take (i := 7) (v := .agg #[.slice (some ⟨gv, 0, none⟩) (Lv.length + 1) cp, .bool sb]) rfl (by kernel_rfl) (by kernel_rfl) (by kernel_rfl) (fun _ _ _ h => h) (.inl ⟨by rfl, by intro w hSw; have hx := hSw.2.2.1; have hy := hSw.2.2.2; go_simp⟩) hHeld ?_
          simp only [Act.put, List.getElem_toArray, List.getElem_cons_succ, List.getElem_cons_zero, List.setIfInBounds_toArray, List.set_cons_zero, List.set_cons_succ]
          refine wpAnyH_ready (rs := [8]) (by kernel_rfl) (by simp) ?_
          refine AllReadyH.cons rfl (fun K hK => ?_) AllReadyH.nil
          go_simp
          refine hK.out _ _ ⟨D10.cells.2.2.1, (by have := D10.area ha; rw [hg] at this; exact this), (K10.cell (p := ⟨Q, 0, none⟩) hQ9 hnQ).trans q0, (K10.cell (p := ⟨Q, 1, none⟩) hQ9 hnQ).trans q1⟩ (fun hHeld => ?_)
          clear hK K
          refine wpAnyH_done (by kernel_rfl) ?_ _
          refine NoPanic.normal ?_
          go_wp2_with fail
          refine (step_in _ p m G5 _ w10 D10 hs5 hl5).mono ?_
          rintro e w11 ⟨rfl, D11, K11⟩
          rw [← HWF.out] at D11 ⊢
          cases hdd : (writeF st area n l).dead
          all_goals
            go_wp2_with fail
            go_ret
            refine ⟨ret_i (by rw [hdd]; rfl), ?_, fun k => O5 k ∨ k = gv, ⟨m, G5, D11⟩, ?_⟩
            · have hsub : ∀ x, (O5 x ∨ x = gv) → O x ∨ w.heap.size ≤ x := fun x hx => by
                rcases hx with hx | hx
                · rcases hO5sub x hx with h | h
                  · exact .inl h
                  · right; rw [hQ]; omega
                · right; rw [hQ]; omega
              refine Keeps.trans (Keeps.trans (Keeps.trans (Keeps.trans (Keeps.trans hK5 K58 (fun _ h => h.elim)) K89 (fun x hx => .inr (by rw [hQ]; omega))) Kd (fun _ h => h.elim)) K10 hsub) K11 hsub
            · intro k hk
              rcases hk with hk | hk
              · rcases hO5sub k hk with h | h
                · exact .inl h
                · right
                  have h6 := (hO5Q k hk).2
                  have := K10.size
                  have := K11.size
                  have : w9.drew.heap.size = w9.heap.size := rfl
                  rw [hQ]; omega
              · right
                have := K10.size
                have := K11.size
                have : w9.drew.heap.size = w9.heap.size := rfl
                rw [hQ]; omega
      · go_simp
        refine hK.out _ _ hTx (fun hHeld => ?_)
        clear hK K
        refine wpAnyH_ready (rs := [1]) (by kernel_rfl) (by simp) ?_
        refine AllReadyH.cons rfl (fun K hK => ?_) AllReadyH.nil
        go_simp
        refine hK.out _ _ hTx (fun hHeld => ?_)
        clear hK K
        refine wpAnyH_ready (rs := [2]) (by kernel_rfl) (by simp) ?_
        refine AllReadyH.cons rfl (fun K hK => ?_) AllReadyH.nil
        go_simp
        refine (clip_any av Lv.length cv _ hlc hln0 (by omega)).mono ?_
        rintro e wz ⟨rfl, rfl⟩
        refine hK.out _ _ hTx (fun hHeld => ?_)
        clear hK K
        refine wpAnyH_ready (rs := [6]) (by kernel_rfl) (by simp) ?_
        refine AllReadyH.cons rfl (fun K hK => ?_) AllReadyH.nil
        refine step_append_grows rfl _ _ 38 rfl 9 js (.string .empty) 1 16 Tryz.underlying38 hjs hjz hjn hjb rfl (by decide) av Lv.length Lv.length (Lv.map .string) rfl (fun e => ⟨hln0 e, hln0 e⟩) (by simp) holds ⟨w7.heap.size, 0, none⟩ 1 1 [.string (wholeI l)] rfl rfl hnewx (by intro u hu; simp at hu; subst hu; rfl) (by omega) (by unfold maxLen; omega) (by omega) ?_
        intro v8 w8 hown8 hg8
        obtain ⟨gv, cp, hv8, hgv⟩ : ∃ gv cp, v8 = .slice (some ⟨gv, 0, none⟩) (Lv.length + 1) cp ∧ w7.heap.size ≤ gv := by
          rcases hown8.2 with ⟨_, h0⟩ | ⟨q, cap, _, hv, hb, _⟩
          · omega
          · exact ⟨q, cap, hv, Nat.le_trans (below_alloc1 w7 (.cells #[.string (wholeI l)] 9)).size hb⟩
        subst hv8
        have hb8 : Below w7.heap.size w7 w8 := (below_alloc1 w7 (.cells #[.string (wholeI l)] 9)).trans ((below_of_grown hg8 (Nat.le_refl _) (fun k hk => by cases hk)).mono (below_alloc1 w7 (.cells #[.string (wholeI l)] 9)).size)
        have bT8 := Blk.below hT7 hb8 hTlt
        have bQ8 := Blk.below bQ7 hb8 hQlt
        have qQ8 := (blk2 bQ8).1
        have fQ8 := Blk.free bQ8 0
        have hV8 : Vers (fun k => k = gv) w8 (.slice (some ⟨gv, 0, none⟩) (Lv.length + 1) cp) (Lv ++ [wholeI l]) := vers_own hown8 (by omega)
        refine hK.out _ _ bT8 (fun hHeld => ?_)
        clear hK K
        refine wpAnyH_take (i := 7) (v := .pointer (some ⟨Q, 0, none⟩)) rfl (by kernel_rfl) (by kernel_rfl) (by kernel_rfl) (fun _ _ _ h => h) (.inl ⟨by rfl, by intro w hSw; go_simp⟩) hHeld ?_
        simp only [Act.put, List.getElem_toArray, List.getElem_cons_succ, List.getElem_cons_zero, List.setIfInBounds_toArray, List.set_cons_zero, List.set_cons_succ]
        refine wpAnyH_ready (rs := [8]) (by kernel_rfl) (by simp) ?_
        refine AllReadyH.cons rfl (fun K hK => ?_) AllReadyH.nil
        go_simp
        refine hK.out _ _ (Blk.other bT8 (by show Q ≠ T; omega) _) (fun hHeld => ?_)
        clear hK K
        refine wpAnyH_done (by kernel_rfl) ?_ _
        refine NoPanic.normal ?_
        have hs8 := hb8.size
        have hb58 : Below T ((w.setCell ⟨p, 0, none⟩ (.int .i64 (st.room - 1))).alloc (.cells #[.slice av Lv.length cv, .bool sb] 68)) w8 := (by rw [← hsW]; exact hb6.trans ((hb7.mono (by omega)).trans (hb8.mono (by have := hb7.size; omega))))
        have K58 : Keeps (fun _ => False) ((w.setCell ⟨p, 0, none⟩ (.int .i64 (st.room - 1))).alloc (.cells #[.slice av Lv.length cv, .bool sb] 68)) w8 := Keeps.of_below (by rw [hsW]; exact hb58)
        have K89 : Keeps (fun k => k = Q) w8 (w8.setCell ⟨Q, 0, none⟩ (.slice (some ⟨gv, 0, none⟩) (Lv.length + 1) cp)) := set_keeps (Keeps.refl _ _) rfl (StrRow.no_blk bQ8 (by decide))
        have D8 := D5.keep K58 (fun _ _ h => h)
        have D9 := (D8.keep K89 (fun k hk e => (hO5Q k hk).1 e)).mono (O' := fun k => O5 k ∨ k = gv) (fun k hk => .inl hk)
        have V9 := (hV8.keep K89 (fun k hk e => by omega)).mono (O' := fun k => O5 k ∨ k = gv) (fun k hk => .inr hk)
        have q0 : (w8.setCell ⟨Q, 0, none⟩ (.slice (some ⟨gv, 0, none⟩) (Lv.length + 1) cp)).cell? ⟨Q, 0, none⟩ = some (.slice (some ⟨gv, 0, none⟩) (Lv.length + 1) cp) := by rw [Blk.cell (bQ8.set 0 _)]; rfl
        have q1 : (w8.setCell ⟨Q, 0, none⟩ (.slice (some ⟨gv, 0, none⟩) (Lv.length + 1) cp)).cell? ⟨Q, 1, none⟩ = some (.bool sb) := by rw [Blk.cell (bQ8.set 0 _)]; rfl
        have hs9 := K89.size
        obtain ⟨w9, hw9⟩ : ∃ w9, w8.setCell ⟨Q, 0, none⟩ (.slice (some ⟨gv, 0, none⟩) (Lv.length + 1) cp) = w9 := ⟨_, rfl⟩
        rw [hw9] at D9 V9 q0 q1 K89 hs9
        simp only [hw9]
        clear hw9
        have Kd : Keeps (fun _ => False) w9 w9.drew := Keeps.of_below ((Below.refl _ _).drew)
        have D9d := D9.keep Kd (fun _ _ h => h)
        have V9d := V9.keep Kd (fun _ _ h => h)
        obtain ⟨w10, hrun10, D10, K10⟩ := D9d.put hg hn (Nat.lt_of_lt_of_le hN (by unfold maxLen; omega)) (s := sb) V9d (by simp)
        have hnQ : ¬ (O5 Q ∨ Q = gv) := by
          rintro (h | h)
          · exact (hO5Q Q h).1 rfl
          · omega
        have hgv9 : gv < w9.heap.size := by
          obtain ⟨_, _, _, hv, _, _, hh⟩ := V9
          simp at hv
          obtain ⟨b', o', e1, _, e3, _⟩ := hh 0 (by simp)
          rw [← hv.1] at e1
          simp at e1
          omega
        have hQ9 : Q < w9.heap.size := by omega
        go_wp2_with fail
        refine wp_region_noPanic ?_
        refine wp_region_held_drew (S := fun w' => w'.cell? ⟨p, 2, none⟩ = some (.map (some m)) ∧ (Instr.lookup 45 (.map (some m)) (.int .u64 area) false).run Tryz.prog w' = .ok (.map (some g)) w' ∧ w'.cell? ⟨Q, 0, none⟩ = some (.slice (some ⟨gv, 0, none⟩) (Lv.length + 1) cp) ∧ w'.cell? ⟨Q, 1, none⟩ = some (.bool sb)) (by kernel_rfl) ⟨D9d.cells.2.2.1, (by have := D9d.area ha; rw [hg] at this; exact this), q0, q1⟩ (fun hHeld => ?_)
        refine wpAnyH_take (i := 0) (v := .pointer (some ⟨p, 0, none⟩)) rfl (by kernel_rfl) (by kernel_rfl) (by kernel_rfl) (fun _ _ _ h => h) (.inl ⟨by rfl, by intro w hSw; go_simp⟩) hHeld ?_
        simp only [Act.put, List.getElem_toArray, List.getElem_cons_succ, List.getElem_cons_zero, List.setIfInBounds_toArray, List.set_cons_zero, List.set_cons_succ]
        refine wpAnyH_take (i := 1) (v := .pointer (some ⟨p, 0, none⟩)) rfl (by kernel_rfl) (by kernel_rfl) (by kernel_rfl) (fun _ _ _ h => h) (.inl ⟨by rfl, by intro w hSw; go_simp⟩) hHeld ?_
        simp only [Act.put, List.getElem_toArray, List.getElem_cons_succ, List.getElem_cons_zero, List.setIfInBounds_toArray, List.set_cons_zero, List.set_cons_succ]
        refine wpAnyH_take (i := 2) (v := .pointer (some ⟨p, 2, none⟩)) rfl (by kernel_rfl) (by kernel_rfl) (by kernel_rfl) (fun _ _ _ h => h) (.inl ⟨by rfl, by intro w hSw; go_simp⟩) hHeld ?_
        simp only [Act.put, List.getElem_toArray, List.getElem_cons_succ, List.getElem_cons_zero, List.setIfInBounds_toArray, List.set_cons_zero, List.set_cons_succ]
        refine wpAnyH_take (i := 3) (v := .map (some m)) rfl (by kernel_rfl) (by kernel_rfl) (by kernel_rfl) (fun _ _ _ h => h) (.inl ⟨by rfl, by intro w hSw; have hx := hSw.1; go_simp⟩) hHeld ?_
        simp only [Act.put, List.getElem_toArray, List.getElem_cons_succ, List.getElem_cons_zero, List.setIfInBounds_toArray, List.set_cons_zero, List.set_cons_succ]
        refine wpAnyH_take (i := 4) (v := .int .u64 area) rfl (by kernel_rfl) (by kernel_rfl) (by kernel_rfl) (fun _ _ _ h => h) (.inl ⟨by rfl, by intro w hSw; go_simp⟩) hHeld ?_
        simp only [Act.put, List.getElem_toArray, List.getElem_cons_succ, List.getElem_cons_zero, List.setIfInBounds_toArray, List.set_cons_zero, List.set_cons_succ]
        refine wpAnyH_take (i := 5) (v := .map (some g)) rfl (by kernel_rfl) (by kernel_rfl) (by kernel_rfl) (fun _ _ _ h => h) (.inl ⟨by rfl, by intro w hSw; have hx := hSw.2.1; go_simp⟩) hHeld ?_
        simp only [Act.put, List.getElem_toArray, List.getElem_cons_succ, List.getElem_cons_zero, List.setIfInBounds_toArray, List.set_cons_zero, List.set_cons_succ]
        refine wpAnyH_take (i := 6) (v := .int .i64 n) rfl (by kernel_rfl) (by kernel_rfl) (by kernel_rfl) (fun _ _ _ h => h) (.inl ⟨by rfl, by intro w hSw; go_simp⟩) hHeld ?_
        simp only [Act.put, List.getElem_toArray, List.getElem_cons_succ, List.getElem_cons_zero, List.setIfInBounds_toArray, List.set_cons_zero, List.set_cons_succ]
        refine wpAnyH_take (i := 7) (v := .agg #[.slice (some ⟨gv, 0, none⟩) (Lv.length + 1) cp, .bool sb]) rfl (by kernel_rfl) (by kernel_rfl) (by kernel_rfl) (fun _ _ _ h => h) (.inl ⟨by rfl, by intro w hSw; have hx := hSw.2.2.1; have hy := hSw.2.2.2; go_simp⟩) hHeld ?_
        simp only [Act.put, List.getElem_toArray, List.getElem_cons_succ, List.getElem_cons_zero, List.setIfInBounds_toArray, List.set_cons_zero, List.set_cons_succ]
        refine wpAnyH_ready (rs := [8]) (by kernel_rfl) (by simp) ?_
        refine AllReadyH.cons rfl (fun K hK => ?_) AllReadyH.nil
        go_simp
        refine hK.out _ _ ⟨D10.cells.2.2.1, (by have := D10.area ha; rw [hg] at this; exact this), (K10.cell (p := ⟨Q, 0, none⟩) hQ9 hnQ).trans q0, (K10.cell (p := ⟨Q, 1, none⟩) hQ9 hnQ).trans q1⟩ (fun hHeld => ?_)
        clear hK K
        refine wpAnyH_done (by kernel_rfl) ?_ _
        refine NoPanic.normal ?_
        go_wp2_with fail
        refine (step_in _ p m G5 _ w10 D10 hs5 hl5).mono ?_
        rintro e w11 ⟨rfl, D11, K11⟩
        rw [← HWF.out] at D11 ⊢
        cases hdd : (writeF st area n l).dead
        all_goals
          go_wp2_with fail
          go_ret
          refine ⟨ret_i (by rw [hdd]; rfl), ?_, fun k => O5 k ∨ k = gv, ⟨m, G5, D11⟩, ?_⟩
          · have hsub : ∀ x, (O5 x ∨ x = gv) → O x ∨ w.heap.size ≤ x := fun x hx => by
              rcases hx with hx | hx
              · rcases hO5sub x hx with h | h
                · exact .inl h
                · right; rw [hQ]; omega
              · right; rw [hQ]; omega
            refine Keeps.trans (Keeps.trans (Keeps.trans (Keeps.trans (Keeps.trans hK5 K58 (fun _ h => h.elim)) K89 (fun x hx => .inr (by rw [hQ]; omega))) Kd (fun _ h => h.elim)) K10 hsub) K11 hsub
          · intro k hk
            rcases hk with hk | hk
            · rcases hO5sub k hk with h | h
              · exact .inl h
              · right
                have h6 := (hO5Q k hk).2
                have := K10.size
                have := K11.size
                have : w9.drew.heap.size = w9.heap.size := rfl
                rw [hQ]; omega
            · right
              have := K10.size
              have := K11.size
              have : w9.drew.heap.size = w9.heap.size := rfl
              rw [hQ]; omega
    | none =>
      rw [hg] at hL1 hL2 hL3 hL4
      have hq : ∀ w : World, (binOp .eql 62 (.map none) (.map none)).run Tryz.prog w = .ok (.bool true) w := fun w => run_eql_map_nil w _ _ _ none Tryz.underlying62
      have hmk : ∀ w : World, (Instr.makeMap 62 none).run Tryz.prog w = .ok (.map (some w.heap.size)) (w.alloc (.map #[] 0)) := fun w => rfl
      have hAt : st.A area = false := by rw [hD.present area, hg]; rfl
      have HWF : Hid (writeF st area n l = stepF (putS (openA { st with room := st.room - 1 } area) area n (Lv ++ [wholeI l], sb))) := by
        show _ = _
        unfold writeF
        rw [hF0, HLv.out, HSb.out]; simp [hAt]
      obtain ⟨w5, hrun5, D50, K50⟩ := D2.opened hg ha (by show st.C < maxLen; unfold maxLen; omega)
      obtain ⟨g, hgg⟩ : ∃ g, Q + 1 = g := ⟨_, rfl⟩
      rw [hsX, hgg] at hrun5 D50
      have hs55 := K50.size
      have hgl : g < w5.heap.size := by
        obtain ⟨_, _, S, hS, _⟩ := D50.inner area g (by simp)
        have := hS.lt; omega
      obtain ⟨T, hTT⟩ : ∃ T, w5.heap.size = T := ⟨_, rfl⟩
      have hsW : w5.heap.size = T := hTT
      obtain ⟨O5, G5, D5, hg5, hO5Q, hO5sub, hV5⟩ : ∃ O5 G5, DiskIn O5 w5 p m G5 (openA { st with room := st.room - 1 } area) ∧ G5 area = some g ∧ (∀ k, O5 k → k ≠ Q ∧ k < T) ∧ (∀ k, O5 k → O k ∨ Q ≤ k) ∧ Vers O5 w5 (.slice av Lv.length cv) Lv :=
        ⟨fun k => O k ∨ k = g, _, D50, by simp, fun k hk => (by rcases hk with hk | hk; (have := hO k hk; omega); omega), fun k hk => (by rcases hk with hk | hk; exact .inl hk; exact .inr (by omega)),
          by
            obtain ⟨f0, a, c, f1, f2, f3, _⟩ := hVw
            exact ⟨f0, a, c, f1, f2, f3, fun j hj => by rw [HLv.out] at hj; simp at hj⟩⟩
      have hgn := hg
      clear hg
      have hg := hg5
      have hnO : ¬ O Q := fun h => by have := hO Q h; omega
      have hK5 : Keeps O w w5 := Keeps.trans hKX K50 (fun x hx => .inl hx)
      have bQW : Blk w5 Q 68 #[.slice av Lv.length cv, .bool sb] := by
        unfold Blk; rw [K50.block Q (by omega) hnO]; exact bQX
      have hIW : Ints w5 .u8 (.slice a5 l.length c5) l := ints_kept hI hK5 hIO
      have hs5 : 0 ≤ (putS (openA { st with room := st.room - 1 } area) area n (Lv ++ [wholeI l], sb)).steps ∧ (putS (openA { st with room := st.room - 1 } area) area n (Lv ++ [wholeI l], sb)).steps ≤ 4611686018427387904 := hs
      have hl5 : (putS (openA { st with room := st.room - 1 } area) area n (Lv ++ [wholeI l], sb)).left ≤ 9223372036854775807 := hleft
      have hTQ : Q < T := by omega
      have hCm := hC
      obtain ⟨iw, hiw, hzw⟩ := info_whole
      have hu8 := size_u8
      go_enter Tryz.func57, Tryz.ntmps57
      go_wp2_with (first
        | (refine wpList_allocN _ (by rfl) _ rfl iw hiw _ hzw ?_; intro w6 hT hb6 hs6; have bQ6 := Blk.below bQW hb6 (by rw [hsW]; omega); have hI6 := hIW.below hb6; have hT' : Blk w6 T 119 (u8A 64 fun _ => 0) := (by rw [← hsW]; exact hT); obtain ⟨w7, kc, hrun7, hT7, hb7⟩ := copy_run hT' hI6 h3 hu8; have bQ7 := Blk.below bQ6 hb7 (by omega)))

      have hQ7 := (blk2 bQ7).1
      have hconv := conv_run (T := T) h3 hl255
      refine wp_region_noPanic ?_
      have hQlt : Q < w7.heap.size := Blk.lt bQ7
      obtain ⟨js, hjs, hjz, hjn, hjb⟩ := info_parts (show (Tryz.prog.info? 9).map (fun i => (i.zero, i.size, i.bytes)) = some (some (.string .empty), 1, 16) by kernel_rfl)
      have hlv42 : Lv.length < 4398046511104 := by
        rcases HFs.out with ⟨_, e, _⟩ | e
        · rw [e]; simp
        · exact hV Lv sb e
      have holds : ∀ b, av = some b → ∀ j u, (Lv.map Value.string)[j]? = some u → (w7.drew.alloc (.cells #[.string (wholeI l)] 9)).cell? (b.add j) = some u := by
        have hb57 : Below T w5 (w7.drew.alloc (.cells #[.string (wholeI l)] 9)) := (by rw [← hsW]; exact hb6.trans ((hb7.mono (by omega)).trans ((below_alloc1 w7 _).mono (by have := hb7.size; omega))))
        exact (hV5.keep (O' := fun _ => False) (Keeps.of_below (by rw [hsW]; exact hb57)) (fun _ _ h => h)).src
      have hnewx : ∀ j u, [Value.string (wholeI l)][j]? = some u → (w7.drew.alloc (.cells #[.string (wholeI l)] 9)).cell? ((⟨w7.heap.size, 0, none⟩ : Addr).add j) = some u := by
        intro j u hj
        match j, hj with
        | 0, hj => simp at hj; subst hj; exact cell_new w7.drew _ _ _ rfl
        | j + 1, hj => simp at hj
      have hTlt : T < w7.heap.size := Blk.lt hT7
      refine wp_region_held_drew (S := fun w' => Blk w' T 119 (wholeC l)) (by kernel_rfl) hT7 (fun hHeld => ?_)
      refine wpAnyH_take (i := 0) (v := .pointer (some ⟨Q, 0, none⟩)) rfl (by kernel_rfl) (by kernel_rfl) (by kernel_rfl) (fun _ _ _ h => h) (.inl ⟨by rfl, by intro w hSw; go_simp⟩) hHeld ?_
      simp only [Act.put, List.getElem_toArray, List.getElem_cons_succ, List.getElem_cons_zero, List.setIfInBounds_toArray, List.set_cons_zero, List.set_cons_succ]
      refine wpAnyH_take (i := 3) (v := .slice (some ⟨T, 0, none⟩) 64 64) rfl (by kernel_rfl) (by kernel_rfl) (by kernel_rfl) (fun _ _ _ h => h) (.inl ⟨by rfl, by intro w hSw; go_simp⟩) hHeld ?_
      simp only [Act.put, List.getElem_toArray, List.getElem_cons_succ, List.getElem_cons_zero, List.setIfInBounds_toArray, List.set_cons_zero, List.set_cons_succ]
      refine wpAnyH_take (i := 4) (v := .string (wholeI l)) rfl (by kernel_rfl) (by kernel_rfl) (by kernel_rfl) (fun _ _ _ h => h) (.inl ⟨by rfl, by intro w hSw; have hx := hconv w hSw; go_simp⟩) hHeld ?_
      simp only [Act.put, List.getElem_toArray, List.getElem_cons_succ, List.getElem_cons_zero, List.setIfInBounds_toArray, List.set_cons_zero, List.set_cons_succ]
      have hQd : w7.drew.cell? ⟨Q, 0, none⟩ = some (.slice av Lv.length cv) := hQ7
      have hQx : (w7.drew.alloc (.cells #[.string (wholeI l)] 9)).cell? ⟨Q, 0, none⟩ = some (.slice av Lv.length cv) := ((below_alloc1 w7 (.cells #[.string (wholeI l)] 9)).cell (p := ⟨Q, 0, none⟩) hQlt).trans hQ7
      have hTx : Blk (w7.drew.alloc (.cells #[.string (wholeI l)] 9)) T 119 (wholeC l) := Blk.below hT7 (below_alloc1 w7 (.cells #[.string (wholeI l)] 9)) hTlt
      refine wpAnyH_ready (rs := [1, 5]) (by kernel_rfl) (by simp) ?_
      refine AllReadyH.cons rfl (fun K hK => ?_) (AllReadyH.cons rfl (fun K hK => ?_) AllReadyH.nil)
      · go_simp
        refine hK.out _ _ hT7 (fun hHeld => ?_)
        clear hK K
        refine wpAnyH_ready (rs := [2, 5]) (by kernel_rfl) (by simp) ?_
        refine AllReadyH.cons rfl (fun K hK => ?_) (AllReadyH.cons rfl (fun K hK => ?_) AllReadyH.nil)
        · go_simp
          refine (clip_any av Lv.length cv _ hlc hln0 (by omega)).mono ?_
          rintro e wz ⟨rfl, rfl⟩
          refine hK.out _ _ hT7 (fun hHeld => ?_)
          clear hK K
          refine wpAnyH_ready (rs := [5]) (by kernel_rfl) (by simp) ?_
          refine AllReadyH.cons rfl (fun K hK => ?_) AllReadyH.nil
          go_simp
          refine hK.out _ _ hTx (fun hHeld => ?_)
          clear hK K
          refine wpAnyH_ready (rs := [6]) (by kernel_rfl) (by simp) ?_
          refine AllReadyH.cons rfl (fun K hK => ?_) AllReadyH.nil
          refine step_append_grows rfl _ _ 38 rfl 9 js (.string .empty) 1 16 Tryz.underlying38 hjs hjz hjn hjb rfl (by decide) av Lv.length Lv.length (Lv.map .string) rfl (fun e => ⟨hln0 e, hln0 e⟩) (by simp) holds ⟨w7.heap.size, 0, none⟩ 1 1 [.string (wholeI l)] rfl rfl hnewx (by intro u hu; simp at hu; subst hu; rfl) (by omega) (by unfold maxLen; omega) (by omega) ?_
          intro v8 w8 hown8 hg8
          obtain ⟨gv, cp, hv8, hgv⟩ : ∃ gv cp, v8 = .slice (some ⟨gv, 0, none⟩) (Lv.length + 1) cp ∧ w7.heap.size ≤ gv := by
            rcases hown8.2 with ⟨_, h0⟩ | ⟨q, cap, _, hv, hb, _⟩
            · omega
            · exact ⟨q, cap, hv, Nat.le_trans (below_alloc1 w7 (.cells #[.string (wholeI l)] 9)).size hb⟩
          subst hv8
          have hb8 : Below w7.heap.size w7 w8 := (below_alloc1 w7 (.cells #[.string (wholeI l)] 9)).trans ((below_of_grown hg8 (Nat.le_refl _) (fun k hk => by cases hk)).mono (below_alloc1 w7 (.cells #[.string (wholeI l)] 9)).size)
          have bT8 := Blk.below hT7 hb8 hTlt
          have bQ8 := Blk.below bQ7 hb8 hQlt
          have qQ8 := (blk2 bQ8).1
          have fQ8 := Blk.free bQ8 0
          have hV8 : Vers (fun k => k = gv) w8 (.slice (some ⟨gv, 0, none⟩) (Lv.length + 1) cp) (Lv ++ [wholeI l]) := vers_own hown8 (by omega)
          refine hK.out _ _ bT8 (fun hHeld => ?_)
          clear hK K
          refine wpAnyH_take (i := 7) (v := .pointer (some ⟨Q, 0, none⟩)) rfl (by kernel_rfl) (by kernel_rfl) (by kernel_rfl) (fun _ _ _ h => h) (.inl ⟨by rfl, by intro w hSw; go_simp⟩) hHeld ?_
          simp only [Act.put, List.getElem_toArray, List.getElem_cons_succ, List.getElem_cons_zero, List.setIfInBounds_toArray, List.set_cons_zero, List.set_cons_succ]
          refine wpAnyH_ready (rs := [8]) (by kernel_rfl) (by simp) ?_
          refine AllReadyH.cons rfl (fun K hK => ?_) AllReadyH.nil
          go_simp
          refine hK.out _ _ (Blk.other bT8 (by show Q ≠ T; omega) _) (fun hHeld => ?_)
          clear hK K
          refine wpAnyH_done (by kernel_rfl) ?_ _
          refine NoPanic.normal ?_
          have hs8 := hb8.size
          have hb58 : Below T w5 w8 := (by rw [← hsW]; exact hb6.trans ((hb7.mono (by omega)).trans (hb8.mono (by have := hb7.size; omega))))
          have K58 : Keeps (fun _ => False) w5 w8 := Keeps.of_below (by rw [hsW]; exact hb58)
          have K89 : Keeps (fun k => k = Q) w8 (w8.setCell ⟨Q, 0, none⟩ (.slice (some ⟨gv, 0, none⟩) (Lv.length + 1) cp)) := set_keeps (Keeps.refl _ _) rfl (StrRow.no_blk bQ8 (by decide))
          have D8 := D5.keep K58 (fun _ _ h => h)
          have D9 := (D8.keep K89 (fun k hk e => (hO5Q k hk).1 e)).mono (O' := fun k => O5 k ∨ k = gv) (fun k hk => .inl hk)
          have V9 := (hV8.keep K89 (fun k hk e => by omega)).mono (O' := fun k => O5 k ∨ k = gv) (fun k hk => .inr hk)
          have q0 : (w8.setCell ⟨Q, 0, none⟩ (.slice (some ⟨gv, 0, none⟩) (Lv.length + 1) cp)).cell? ⟨Q, 0, none⟩ = some (.slice (some ⟨gv, 0, none⟩) (Lv.length + 1) cp) := by rw [Blk.cell (bQ8.set 0 _)]; rfl
          have q1 : (w8.setCell ⟨Q, 0, none⟩ (.slice (some ⟨gv, 0, none⟩) (Lv.length + 1) cp)).cell? ⟨Q, 1, none⟩ = some (.bool sb) := by rw [Blk.cell (bQ8.set 0 _)]; rfl
          have hs9 := K89.size
          obtain ⟨w9, hw9⟩ : ∃ w9, w8.setCell ⟨Q, 0, none⟩ (.slice (some ⟨gv, 0, none⟩) (Lv.length + 1) cp) = w9 := ⟨_, rfl⟩
          rw [hw9] at D9 V9 q0 q1 K89 hs9
          simp only [hw9]
          clear hw9
          have Kd : Keeps (fun _ => False) w9 w9.drew := Keeps.of_below ((Below.refl _ _).drew)
          have D9d := D9.keep Kd (fun _ _ h => h)
          have V9d := V9.keep Kd (fun _ _ h => h)
          obtain ⟨w10, hrun10, D10, K10⟩ := D9d.put hg hn (Nat.lt_of_lt_of_le hN (by unfold maxLen; omega)) (s := sb) V9d (by simp)
          have hnQ : ¬ (O5 Q ∨ Q = gv) := by
            rintro (h | h)
            · exact (hO5Q Q h).1 rfl
            · omega
          have hgv9 : gv < w9.heap.size := by
            obtain ⟨_, _, _, hv, _, _, hh⟩ := V9
            simp at hv
            obtain ⟨b', o', e1, _, e3, _⟩ := hh 0 (by simp)
            rw [← hv.1] at e1
            simp at e1
            omega
          have hQ9 : Q < w9.heap.size := by omega
          go_wp2_with fail
          refine wp_region_noPanic ?_
          refine wp_region_held_drew (S := fun w' => w'.cell? ⟨p, 2, none⟩ = some (.map (some m)) ∧ (Instr.lookup 45 (.map (some m)) (.int .u64 area) false).run Tryz.prog w' = .ok (.map (some g)) w' ∧ w'.cell? ⟨Q, 0, none⟩ = some (.slice (some ⟨gv, 0, none⟩) (Lv.length + 1) cp) ∧ w'.cell? ⟨Q, 1, none⟩ = some (.bool sb)) (by kernel_rfl) ⟨D9d.cells.2.2.1, (by have := D9d.area ha; rw [hg] at this; exact this), q0, q1⟩ (fun hHeld => ?_)
          refine wpAnyH_take (i := 0) (v := .pointer (some ⟨p, 0, none⟩)) rfl (by kernel_rfl) (by kernel_rfl) (by kernel_rfl) (fun _ _ _ h => h) (.inl ⟨by rfl, by intro w hSw; go_simp⟩) hHeld ?_
          simp only [Act.put, List.getElem_toArray, List.getElem_cons_succ, List.getElem_cons_zero, List.setIfInBounds_toArray, List.set_cons_zero, List.set_cons_succ]
          refine wpAnyH_take (i := 1) (v := .pointer (some ⟨p, 0, none⟩)) rfl (by kernel_rfl) (by kernel_rfl) (by kernel_rfl) (fun _ _ _ h => h) (.inl ⟨by rfl, by intro w hSw; go_simp⟩) hHeld ?_
          simp only [Act.put, List.getElem_toArray, List.getElem_cons_succ, List.getElem_cons_zero, List.setIfInBounds_toArray, List.set_cons_zero, List.set_cons_succ]
          refine wpAnyH_take (i := 2) (v := .pointer (some ⟨p, 2, none⟩)) rfl (by kernel_rfl) (by kernel_rfl) (by kernel_rfl) (fun _ _ _ h => h) (.inl ⟨by rfl, by intro w hSw; go_simp⟩) hHeld ?_
          simp only [Act.put, List.getElem_toArray, List.getElem_cons_succ, List.getElem_cons_zero, List.setIfInBounds_toArray, List.set_cons_zero, List.set_cons_succ]
          refine wpAnyH_take (i := 3) (v := .map (some m)) rfl (by kernel_rfl) (by kernel_rfl) (by kernel_rfl) (fun _ _ _ h => h) (.inl ⟨by rfl, by intro w hSw; have hx := hSw.1; go_simp⟩) hHeld ?_
          simp only [Act.put, List.getElem_toArray, List.getElem_cons_succ, List.getElem_cons_zero, List.setIfInBounds_toArray, List.set_cons_zero, List.set_cons_succ]
          refine wpAnyH_take (i := 4) (v := .int .u64 area) rfl (by kernel_rfl) (by kernel_rfl) (by kernel_rfl) (fun _ _ _ h => h) (.inl ⟨by rfl, by intro w hSw; go_simp⟩) hHeld ?_
          simp only [Act.put, List.getElem_toArray, List.getElem_cons_succ, List.getElem_cons_zero, List.setIfInBounds_toArray, List.set_cons_zero, List.set_cons_succ]
          refine wpAnyH_take (i := 5) (v := .map (some g)) rfl (by kernel_rfl) (by kernel_rfl) (by kernel_rfl) (fun _ _ _ h => h) (.inl ⟨by rfl, by intro w hSw; have hx := hSw.2.1; go_simp⟩) hHeld ?_
          simp only [Act.put, List.getElem_toArray, List.getElem_cons_succ, List.getElem_cons_zero, List.setIfInBounds_toArray, List.set_cons_zero, List.set_cons_succ]
          refine wpAnyH_take (i := 6) (v := .int .i64 n) rfl (by kernel_rfl) (by kernel_rfl) (by kernel_rfl) (fun _ _ _ h => h) (.inl ⟨by rfl, by intro w hSw; go_simp⟩) hHeld ?_
          simp only [Act.put, List.getElem_toArray, List.getElem_cons_succ, List.getElem_cons_zero, List.setIfInBounds_toArray, List.set_cons_zero, List.set_cons_succ]
          refine wpAnyH_take (i := 7) (v := .agg #[.slice (some ⟨gv, 0, none⟩) (Lv.length + 1) cp, .bool sb]) rfl (by kernel_rfl) (by kernel_rfl) (by kernel_rfl) (fun _ _ _ h => h) (.inl ⟨by rfl, by intro w hSw; have hx := hSw.2.2.1; have hy := hSw.2.2.2; go_simp⟩) hHeld ?_
          simp only [Act.put, List.getElem_toArray, List.getElem_cons_succ, List.getElem_cons_zero, List.setIfInBounds_toArray, List.set_cons_zero, List.set_cons_succ]
          refine wpAnyH_ready (rs := [8]) (by kernel_rfl) (by simp) ?_
          refine AllReadyH.cons rfl (fun K hK => ?_) AllReadyH.nil
          go_simp
          refine hK.out _ _ ⟨D10.cells.2.2.1, (by have := D10.area ha; rw [hg] at this; exact this), (K10.cell (p := ⟨Q, 0, none⟩) hQ9 hnQ).trans q0, (K10.cell (p := ⟨Q, 1, none⟩) hQ9 hnQ).trans q1⟩ (fun hHeld => ?_)
          clear hK K
          refine wpAnyH_done (by kernel_rfl) ?_ _
          refine NoPanic.normal ?_
          go_wp2_with fail
          refine (step_in _ p m G5 _ w10 D10 hs5 hl5).mono ?_
          rintro e w11 ⟨rfl, D11, K11⟩
          rw [← HWF.out] at D11 ⊢
          cases hdd : (writeF st area n l).dead
          all_goals
            go_wp2_with fail
            go_ret
            refine ⟨ret_i (by rw [hdd]; rfl), ?_, fun k => O5 k ∨ k = gv, ⟨m, G5, D11⟩, ?_⟩
            · have hsub : ∀ x, (O5 x ∨ x = gv) → O x ∨ w.heap.size ≤ x := fun x hx => by
                rcases hx with hx | hx
                · rcases hO5sub x hx with h | h
                  · exact .inl h
                  · right; rw [hQ]; omega
                · right; rw [hQ]; omega
              refine Keeps.trans (Keeps.trans (Keeps.trans (Keeps.trans (Keeps.trans hK5 K58 (fun _ h => h.elim)) K89 (fun x hx => .inr (by rw [hQ]; omega))) Kd (fun _ h => h.elim)) K10 hsub) K11 hsub
            · intro k hk
              rcases hk with hk | hk
              · rcases hO5sub k hk with h | h
                · exact .inl h
                · right
                  have h6 := (hO5Q k hk).2
                  have := K10.size
                  have := K11.size
                  have : w9.drew.heap.size = w9.heap.size := rfl
                  rw [hQ]; omega
              · right
                have := K10.size
                have := K11.size
                have : w9.drew.heap.size = w9.heap.size := rfl
                rw [hQ]; omega
        · go_simp
          refine hK.out _ _ hTx (fun hHeld => ?_)
          clear hK K
          refine wpAnyH_ready (rs := [2]) (by kernel_rfl) (by simp) ?_
          refine AllReadyH.cons rfl (fun K hK => ?_) AllReadyH.nil
          go_simp
          refine (clip_any av Lv.length cv _ hlc hln0 (by omega)).mono ?_
          rintro e wz ⟨rfl, rfl⟩
          refine hK.out _ _ hTx (fun hHeld => ?_)
          clear hK K
          refine wpAnyH_ready (rs := [6]) (by kernel_rfl) (by simp) ?_
          refine AllReadyH.cons rfl (fun K hK => ?_) AllReadyH.nil
          refine step_append_grows rfl _ _ 38 rfl 9 js (.string .empty) 1 16 Tryz.underlying38 hjs hjz hjn hjb rfl (by decide) av Lv.length Lv.length (Lv.map .string) rfl (fun e => ⟨hln0 e, hln0 e⟩) (by simp) holds ⟨w7.heap.size, 0, none⟩ 1 1 [.string (wholeI l)] rfl rfl hnewx (by intro u hu; simp at hu; subst hu; rfl) (by omega) (by unfold maxLen; omega) (by omega) ?_
          intro v8 w8 hown8 hg8
          obtain ⟨gv, cp, hv8, hgv⟩ : ∃ gv cp, v8 = .slice (some ⟨gv, 0, none⟩) (Lv.length + 1) cp ∧ w7.heap.size ≤ gv := by
            rcases hown8.2 with ⟨_, h0⟩ | ⟨q, cap, _, hv, hb, _⟩
            · omega
            · exact ⟨q, cap, hv, Nat.le_trans (below_alloc1 w7 (.cells #[.string (wholeI l)] 9)).size hb⟩
          subst hv8
          have hb8 : Below w7.heap.size w7 w8 := (below_alloc1 w7 (.cells #[.string (wholeI l)] 9)).trans ((below_of_grown hg8 (Nat.le_refl _) (fun k hk => by cases hk)).mono (below_alloc1 w7 (.cells #[.string (wholeI l)] 9)).size)
          have bT8 := Blk.below hT7 hb8 hTlt
          have bQ8 := Blk.below bQ7 hb8 hQlt
          have qQ8 := (blk2 bQ8).1
          have fQ8 := Blk.free bQ8 0
          have hV8 : Vers (fun k => k = gv) w8 (.slice (some ⟨gv, 0, none⟩) (Lv.length + 1) cp) (Lv ++ [wholeI l]) := vers_own hown8 (by omega)
          refine hK.out _ _ bT8 (fun hHeld => ?_)
          clear hK K
          refine wpAnyH_take (i := 7) (v := .pointer (some ⟨Q, 0, none⟩)) rfl (by kernel_rfl) (by kernel_rfl) (by kernel_rfl) (fun _ _ _ h => h) (.inl ⟨by rfl, by intro w hSw; go_simp⟩) hHeld ?_
          simp only [Act.put, List.getElem_toArray, List.getElem_cons_succ, List.getElem_cons_zero, List.setIfInBounds_toArray, List.set_cons_zero, List.set_cons_succ]
          refine wpAnyH_ready (rs := [8]) (by kernel_rfl) (by simp) ?_
          refine AllReadyH.cons rfl (fun K hK => ?_) AllReadyH.nil
          go_simp
          refine hK.out _ _ (Blk.other bT8 (by show Q ≠ T; omega) _) (fun hHeld => ?_)
          clear hK K
          refine wpAnyH_done (by kernel_rfl) ?_ _
          refine NoPanic.normal ?_
          have hs8 := hb8.size
          have hb58 : Below T w5 w8 := (by rw [← hsW]; exact hb6.trans ((hb7.mono (by omega)).trans (hb8.mono (by have := hb7.size; omega))))
          have K58 : Keeps (fun _ => False) w5 w8 := Keeps.of_below (by rw [hsW]; exact hb58)
          have K89 : Keeps (fun k => k = Q) w8 (w8.setCell ⟨Q, 0, none⟩ (.slice (some ⟨gv, 0, none⟩) (Lv.length + 1) cp)) := set_keeps (Keeps.refl _ _) rfl (StrRow.no_blk bQ8 (by decide))
          have D8 := D5.keep K58 (fun _ _ h => h)
          have D9 := (D8.keep K89 (fun k hk e => (hO5Q k hk).1 e)).mono (O' := fun k => O5 k ∨ k = gv) (fun k hk => .inl hk)
          have V9 := (hV8.keep K89 (fun k hk e => by omega)).mono (O' := fun k => O5 k ∨ k = gv) (fun k hk => .inr hk)
          have q0 : (w8.setCell ⟨Q, 0, none⟩ (.slice (some ⟨gv, 0, none⟩) (Lv.length + 1) cp)).cell? ⟨Q, 0, none⟩ = some (.slice (some ⟨gv, 0, none⟩) (Lv.length + 1) cp) := by rw [Blk.cell (bQ8.set 0 _)]; rfl
          have q1 : (w8.setCell ⟨Q, 0, none⟩ (.slice (some ⟨gv, 0, none⟩) (Lv.length + 1) cp)).cell? ⟨Q, 1, none⟩ = some (.bool sb) := by rw [Blk.cell (bQ8.set 0 _)]; rfl
          have hs9 := K89.size
          obtain ⟨w9, hw9⟩ : ∃ w9, w8.setCell ⟨Q, 0, none⟩ (.slice (some ⟨gv, 0, none⟩) (Lv.length + 1) cp) = w9 := ⟨_, rfl⟩
          rw [hw9] at D9 V9 q0 q1 K89 hs9
          simp only [hw9]
          clear hw9
          have Kd : Keeps (fun _ => False) w9 w9.drew := Keeps.of_below ((Below.refl _ _).drew)
          have D9d := D9.keep Kd (fun _ _ h => h)
          have V9d := V9.keep Kd (fun _ _ h => h)
          obtain ⟨w10, hrun10, D10, K10⟩ := D9d.put hg hn (Nat.lt_of_lt_of_le hN (by unfold maxLen; omega)) (s := sb) V9d (by simp)
          have hnQ : ¬ (O5 Q ∨ Q = gv) := by
            rintro (h | h)
            · exact (hO5Q Q h).1 rfl
            · omega
          have hgv9 : gv < w9.heap.size := by
            obtain ⟨_, _, _, hv, _, _, hh⟩ := V9
            simp at hv
            obtain ⟨b', o', e1, _, e3, _⟩ := hh 0 (by simp)
            rw [← hv.1] at e1
            simp at e1
            omega
          have hQ9 : Q < w9.heap.size := by omega
          go_wp2_with fail
          refine wp_region_noPanic ?_
          refine wp_region_held_drew (S := fun w' => w'.cell? ⟨p, 2, none⟩ = some (.map (some m)) ∧ (Instr.lookup 45 (.map (some m)) (.int .u64 area) false).run Tryz.prog w' = .ok (.map (some g)) w' ∧ w'.cell? ⟨Q, 0, none⟩ = some (.slice (some ⟨gv, 0, none⟩) (Lv.length + 1) cp) ∧ w'.cell? ⟨Q, 1, none⟩ = some (.bool sb)) (by kernel_rfl) ⟨D9d.cells.2.2.1, (by have := D9d.area ha; rw [hg] at this; exact this), q0, q1⟩ (fun hHeld => ?_)
          refine wpAnyH_take (i := 0) (v := .pointer (some ⟨p, 0, none⟩)) rfl (by kernel_rfl) (by kernel_rfl) (by kernel_rfl) (fun _ _ _ h => h) (.inl ⟨by rfl, by intro w hSw; go_simp⟩) hHeld ?_
          simp only [Act.put, List.getElem_toArray, List.getElem_cons_succ, List.getElem_cons_zero, List.setIfInBounds_toArray, List.set_cons_zero, List.set_cons_succ]
          refine wpAnyH_take (i := 1) (v := .pointer (some ⟨p, 0, none⟩)) rfl (by kernel_rfl) (by kernel_rfl) (by kernel_rfl) (fun _ _ _ h => h) (.inl ⟨by rfl, by intro w hSw; go_simp⟩) hHeld ?_
          simp only [Act.put, List.getElem_toArray, List.getElem_cons_succ, List.getElem_cons_zero, List.setIfInBounds_toArray, List.set_cons_zero, List.set_cons_succ]
          refine wpAnyH_take (i := 2) (v := .pointer (some ⟨p, 2, none⟩)) rfl (by kernel_rfl) (by kernel_rfl) (by kernel_rfl) (fun _ _ _ h => h) (.inl ⟨by rfl, by intro w hSw; go_simp⟩) hHeld ?_
          simp only [Act.put, List.getElem_toArray, List.getElem_cons_succ, List.getElem_cons_zero, List.setIfInBounds_toArray, List.set_cons_zero, List.set_cons_succ]
          refine wpAnyH_take (i := 3) (v := .map (some m)) rfl (by kernel_rfl) (by kernel_rfl) (by kernel_rfl) (fun _ _ _ h => h) (.inl ⟨by rfl, by intro w hSw; have hx := hSw.1; go_simp⟩) hHeld ?_
          simp only [Act.put, List.getElem_toArray, List.getElem_cons_succ, List.getElem_cons_zero, List.setIfInBounds_toArray, List.set_cons_zero, List.set_cons_succ]
          refine wpAnyH_take (i := 4) (v := .int .u64 area) rfl (by kernel_rfl) (by kernel_rfl) (by kernel_rfl) (fun _ _ _ h => h) (.inl ⟨by rfl, by intro w hSw; go_simp⟩) hHeld ?_
          simp only [Act.put, List.getElem_toArray, List.getElem_cons_succ, List.getElem_cons_zero, List.setIfInBounds_toArray, List.set_cons_zero, List.set_cons_succ]
          refine wpAnyH_take (i := 5) (v := .map (some g)) rfl (by kernel_rfl) (by kernel_rfl) (by kernel_rfl) (fun _ _ _ h => h) (.inl ⟨by rfl, by intro w hSw; have hx := hSw.2.1; go_simp⟩) hHeld ?_
          simp only [Act.put, List.getElem_toArray, List.getElem_cons_succ, List.getElem_cons_zero, List.setIfInBounds_toArray, List.set_cons_zero, List.set_cons_succ]
          refine wpAnyH_take (i := 6) (v := .int .i64 n) rfl (by kernel_rfl) (by kernel_rfl) (by kernel_rfl) (fun _ _ _ h => h) (.inl ⟨by rfl, by intro w hSw; go_simp⟩) hHeld ?_
          simp only [Act.put, List.getElem_toArray, List.getElem_cons_succ, List.getElem_cons_zero, List.setIfInBounds_toArray, List.set_cons_zero, List.set_cons_succ]
          refine wpAnyH_take (i := 7) (v := .agg #[.slice (some ⟨gv, 0, none⟩) (Lv.length + 1) cp, .bool sb]) rfl (by kernel_rfl) (by kernel_rfl) (by kernel_rfl) (fun _ _ _ h => h) (.inl ⟨by rfl, by intro w hSw; have hx := hSw.2.2.1; have hy := hSw.2.2.2; go_simp⟩) hHeld ?_
          simp only [Act.put, List.getElem_toArray, List.getElem_cons_succ, List.getElem_cons_zero, List.setIfInBounds_toArray, List.set_cons_zero, List.set_cons_succ]
          refine wpAnyH_ready (rs := [8]) (by kernel_rfl) (by simp) ?_
          refine AllReadyH.cons rfl (fun K hK => ?_) AllReadyH.nil
          go_simp
          refine hK.out _ _ ⟨D10.cells.2.2.1, (by have := D10.area ha; rw [hg] at this; exact this), (K10.cell (p := ⟨Q, 0, none⟩) hQ9 hnQ).trans q0, (K10.cell (p := ⟨Q, 1, none⟩) hQ9 hnQ).trans q1⟩ (fun hHeld => ?_)
          clear hK K
          refine wpAnyH_done (by kernel_rfl) ?_ _
          refine NoPanic.normal ?_
          go_wp2_with fail
          refine (step_in _ p m G5 _ w10 D10 hs5 hl5).mono ?_
          rintro e w11 ⟨rfl, D11, K11⟩
          rw [← HWF.out] at D11 ⊢
          cases hdd : (writeF st area n l).dead
          all_goals
            go_wp2_with fail
            go_ret
            refine ⟨ret_i (by rw [hdd]; rfl), ?_, fun k => O5 k ∨ k = gv, ⟨m, G5, D11⟩, ?_⟩
            · have hsub : ∀ x, (O5 x ∨ x = gv) → O x ∨ w.heap.size ≤ x := fun x hx => by
                rcases hx with hx | hx
                · rcases hO5sub x hx with h | h
                  · exact .inl h
                  · right; rw [hQ]; omega
                · right; rw [hQ]; omega
              refine Keeps.trans (Keeps.trans (Keeps.trans (Keeps.trans (Keeps.trans hK5 K58 (fun _ h => h.elim)) K89 (fun x hx => .inr (by rw [hQ]; omega))) Kd (fun _ h => h.elim)) K10 hsub) K11 hsub
            · intro k hk
              rcases hk with hk | hk
              · rcases hO5sub k hk with h | h
                · exact .inl h
                · right
                  have h6 := (hO5Q k hk).2
                  have := K10.size
                  have := K11.size
                  have : w9.drew.heap.size = w9.heap.size := rfl
                  rw [hQ]; omega
              · right
                have := K10.size
                have := K11.size
                have : w9.drew.heap.size = w9.heap.size := rfl
                rw [hQ]; omega
      · go_simp
        refine hK.out _ _ hTx (fun hHeld => ?_)
        clear hK K
        refine wpAnyH_ready (rs := [1]) (by kernel_rfl) (by simp) ?_
        refine AllReadyH.cons rfl (fun K hK => ?_) AllReadyH.nil
        go_simp
        refine hK.out _ _ hTx (fun hHeld => ?_)
        clear hK K
        refine wpAnyH_ready (rs := [2]) (by kernel_rfl) (by simp) ?_
        refine AllReadyH.cons rfl (fun K hK => ?_) AllReadyH.nil
        go_simp
        refine (clip_any av Lv.length cv _ hlc hln0 (by omega)).mono ?_
        rintro e wz ⟨rfl, rfl⟩
        refine hK.out _ _ hTx (fun hHeld => ?_)
        clear hK K
        refine wpAnyH_ready (rs := [6]) (by kernel_rfl) (by simp) ?_
        refine AllReadyH.cons rfl (fun K hK => ?_) AllReadyH.nil
        refine step_append_grows rfl _ _ 38 rfl 9 js (.string .empty) 1 16 Tryz.underlying38 hjs hjz hjn hjb rfl (by decide) av Lv.length Lv.length (Lv.map .string) rfl (fun e => ⟨hln0 e, hln0 e⟩) (by simp) holds ⟨w7.heap.size, 0, none⟩ 1 1 [.string (wholeI l)] rfl rfl hnewx (by intro u hu; simp at hu; subst hu; rfl) (by omega) (by unfold maxLen; omega) (by omega) ?_
        intro v8 w8 hown8 hg8
        obtain ⟨gv, cp, hv8, hgv⟩ : ∃ gv cp, v8 = .slice (some ⟨gv, 0, none⟩) (Lv.length + 1) cp ∧ w7.heap.size ≤ gv := by
          rcases hown8.2 with ⟨_, h0⟩ | ⟨q, cap, _, hv, hb, _⟩
          · omega
          · exact ⟨q, cap, hv, Nat.le_trans (below_alloc1 w7 (.cells #[.string (wholeI l)] 9)).size hb⟩
        subst hv8
        have hb8 : Below w7.heap.size w7 w8 := (below_alloc1 w7 (.cells #[.string (wholeI l)] 9)).trans ((below_of_grown hg8 (Nat.le_refl _) (fun k hk => by cases hk)).mono (below_alloc1 w7 (.cells #[.string (wholeI l)] 9)).size)
        have bT8 := Blk.below hT7 hb8 hTlt
        have bQ8 := Blk.below bQ7 hb8 hQlt
        have qQ8 := (blk2 bQ8).1
        have fQ8 := Blk.free bQ8 0
        have hV8 : Vers (fun k => k = gv) w8 (.slice (some ⟨gv, 0, none⟩) (Lv.length + 1) cp) (Lv ++ [wholeI l]) := vers_own hown8 (by omega)
        refine hK.out _ _ bT8 (fun hHeld => ?_)
        clear hK K
        refine wpAnyH_take (i := 7) (v := .pointer (some ⟨Q, 0, none⟩)) rfl (by kernel_rfl) (by kernel_rfl) (by kernel_rfl) (fun _ _ _ h => h) (.inl ⟨by rfl, by intro w hSw; go_simp⟩) hHeld ?_
        simp only [Act.put, List.getElem_toArray, List.getElem_cons_succ, List.getElem_cons_zero, List.setIfInBounds_toArray, List.set_cons_zero, List.set_cons_succ]
        refine wpAnyH_ready (rs := [8]) (by kernel_rfl) (by simp) ?_
        refine AllReadyH.cons rfl (fun K hK => ?_) AllReadyH.nil
        go_simp
        refine hK.out _ _ (Blk.other bT8 (by show Q ≠ T; omega) _) (fun hHeld => ?_)
        clear hK K
        refine wpAnyH_done (by kernel_rfl) ?_ _
        refine NoPanic.normal ?_
        have hs8 := hb8.size
        have hb58 : Below T w5 w8 := (by rw [← hsW]; exact hb6.trans ((hb7.mono (by omega)).trans (hb8.mono (by have := hb7.size; omega))))
        have K58 : Keeps (fun _ => False) w5 w8 := Keeps.of_below (by rw [hsW]; exact hb58)
        have K89 : Keeps (fun k => k = Q) w8 (w8.setCell ⟨Q, 0, none⟩ (.slice (some ⟨gv, 0, none⟩) (Lv.length + 1) cp)) := set_keeps (Keeps.refl _ _) rfl (StrRow.no_blk bQ8 (by decide))
        have D8 := D5.keep K58 (fun _ _ h => h)
        have D9 := (D8.keep K89 (fun k hk e => (hO5Q k hk).1 e)).mono (O' := fun k => O5 k ∨ k = gv) (fun k hk => .inl hk)
        have V9 := (hV8.keep K89 (fun k hk e => by omega)).mono (O' := fun k => O5 k ∨ k = gv) (fun k hk => .inr hk)
        have q0 : (w8.setCell ⟨Q, 0, none⟩ (.slice (some ⟨gv, 0, none⟩) (Lv.length + 1) cp)).cell? ⟨Q, 0, none⟩ = some (.slice (some ⟨gv, 0, none⟩) (Lv.length + 1) cp) := by rw [Blk.cell (bQ8.set 0 _)]; rfl
        have q1 : (w8.setCell ⟨Q, 0, none⟩ (.slice (some ⟨gv, 0, none⟩) (Lv.length + 1) cp)).cell? ⟨Q, 1, none⟩ = some (.bool sb) := by rw [Blk.cell (bQ8.set 0 _)]; rfl
        have hs9 := K89.size
        obtain ⟨w9, hw9⟩ : ∃ w9, w8.setCell ⟨Q, 0, none⟩ (.slice (some ⟨gv, 0, none⟩) (Lv.length + 1) cp) = w9 := ⟨_, rfl⟩
        rw [hw9] at D9 V9 q0 q1 K89 hs9
        simp only [hw9]
        clear hw9
        have Kd : Keeps (fun _ => False) w9 w9.drew := Keeps.of_below ((Below.refl _ _).drew)
        have D9d := D9.keep Kd (fun _ _ h => h)
        have V9d := V9.keep Kd (fun _ _ h => h)
        obtain ⟨w10, hrun10, D10, K10⟩ := D9d.put hg hn (Nat.lt_of_lt_of_le hN (by unfold maxLen; omega)) (s := sb) V9d (by simp)
        have hnQ : ¬ (O5 Q ∨ Q = gv) := by
          rintro (h | h)
          · exact (hO5Q Q h).1 rfl
          · omega
        have hgv9 : gv < w9.heap.size := by
          obtain ⟨_, _, _, hv, _, _, hh⟩ := V9
          simp at hv
          obtain ⟨b', o', e1, _, e3, _⟩ := hh 0 (by simp)
          rw [← hv.1] at e1
          simp at e1
          omega
        have hQ9 : Q < w9.heap.size := by omega
        go_wp2_with fail
        refine wp_region_noPanic ?_
        refine wp_region_held_drew (S := fun w' => w'.cell? ⟨p, 2, none⟩ = some (.map (some m)) ∧ (Instr.lookup 45 (.map (some m)) (.int .u64 area) false).run Tryz.prog w' = .ok (.map (some g)) w' ∧ w'.cell? ⟨Q, 0, none⟩ = some (.slice (some ⟨gv, 0, none⟩) (Lv.length + 1) cp) ∧ w'.cell? ⟨Q, 1, none⟩ = some (.bool sb)) (by kernel_rfl) ⟨D9d.cells.2.2.1, (by have := D9d.area ha; rw [hg] at this; exact this), q0, q1⟩ (fun hHeld => ?_)
        refine wpAnyH_take (i := 0) (v := .pointer (some ⟨p, 0, none⟩)) rfl (by kernel_rfl) (by kernel_rfl) (by kernel_rfl) (fun _ _ _ h => h) (.inl ⟨by rfl, by intro w hSw; go_simp⟩) hHeld ?_
        simp only [Act.put, List.getElem_toArray, List.getElem_cons_succ, List.getElem_cons_zero, List.setIfInBounds_toArray, List.set_cons_zero, List.set_cons_succ]
        refine wpAnyH_take (i := 1) (v := .pointer (some ⟨p, 0, none⟩)) rfl (by kernel_rfl) (by kernel_rfl) (by kernel_rfl) (fun _ _ _ h => h) (.inl ⟨by rfl, by intro w hSw; go_simp⟩) hHeld ?_
        simp only [Act.put, List.getElem_toArray, List.getElem_cons_succ, List.getElem_cons_zero, List.setIfInBounds_toArray, List.set_cons_zero, List.set_cons_succ]
        refine wpAnyH_take (i := 2) (v := .pointer (some ⟨p, 2, none⟩)) rfl (by kernel_rfl) (by kernel_rfl) (by kernel_rfl) (fun _ _ _ h => h) (.inl ⟨by rfl, by intro w hSw; go_simp⟩) hHeld ?_
        simp only [Act.put, List.getElem_toArray, List.getElem_cons_succ, List.getElem_cons_zero, List.setIfInBounds_toArray, List.set_cons_zero, List.set_cons_succ]
        refine wpAnyH_take (i := 3) (v := .map (some m)) rfl (by kernel_rfl) (by kernel_rfl) (by kernel_rfl) (fun _ _ _ h => h) (.inl ⟨by rfl, by intro w hSw; have hx := hSw.1; go_simp⟩) hHeld ?_
        simp only [Act.put, List.getElem_toArray, List.getElem_cons_succ, List.getElem_cons_zero, List.setIfInBounds_toArray, List.set_cons_zero, List.set_cons_succ]
        refine wpAnyH_take (i := 4) (v := .int .u64 area) rfl (by kernel_rfl) (by kernel_rfl) (by kernel_rfl) (fun _ _ _ h => h) (.inl ⟨by rfl, by intro w hSw; go_simp⟩) hHeld ?_
        simp only [Act.put, List.getElem_toArray, List.getElem_cons_succ, List.getElem_cons_zero, List.setIfInBounds_toArray, List.set_cons_zero, List.set_cons_succ]
        refine wpAnyH_take (i := 5) (v := .map (some g)) rfl (by kernel_rfl) (by kernel_rfl) (by kernel_rfl) (fun _ _ _ h => h) (.inl ⟨by rfl, by intro w hSw; have hx := hSw.2.1; go_simp⟩) hHeld ?_
        simp only [Act.put, List.getElem_toArray, List.getElem_cons_succ, List.getElem_cons_zero, List.setIfInBounds_toArray, List.set_cons_zero, List.set_cons_succ]
        refine wpAnyH_take (i := 6) (v := .int .i64 n) rfl (by kernel_rfl) (by kernel_rfl) (by kernel_rfl) (fun _ _ _ h => h) (.inl ⟨by rfl, by intro w hSw; go_simp⟩) hHeld ?_
        simp only [Act.put, List.getElem_toArray, List.getElem_cons_succ, List.getElem_cons_zero, List.setIfInBounds_toArray, List.set_cons_zero, List.set_cons_succ]
        refine wpAnyH_take (i := 7) (v := .agg #[.slice (some ⟨gv, 0, none⟩) (Lv.length + 1) cp, .bool sb]) rfl (by kernel_rfl) (by kernel_rfl) (by kernel_rfl) (fun _ _ _ h => h) (.inl ⟨by rfl, by intro w hSw; have hx := hSw.2.2.1; have hy := hSw.2.2.2; go_simp⟩) hHeld ?_
        simp only [Act.put, List.getElem_toArray, List.getElem_cons_succ, List.getElem_cons_zero, List.setIfInBounds_toArray, List.set_cons_zero, List.set_cons_succ]
        refine wpAnyH_ready (rs := [8]) (by kernel_rfl) (by simp) ?_
        refine AllReadyH.cons rfl (fun K hK => ?_) AllReadyH.nil
        go_simp
        refine hK.out _ _ ⟨D10.cells.2.2.1, (by have := D10.area ha; rw [hg] at this; exact this), (K10.cell (p := ⟨Q, 0, none⟩) hQ9 hnQ).trans q0, (K10.cell (p := ⟨Q, 1, none⟩) hQ9 hnQ).trans q1⟩ (fun hHeld => ?_)
        clear hK K
        refine wpAnyH_done (by kernel_rfl) ?_ _
        refine NoPanic.normal ?_
        go_wp2_with fail
        refine (step_in _ p m G5 _ w10 D10 hs5 hl5).mono ?_
        rintro e w11 ⟨rfl, D11, K11⟩
        rw [← HWF.out] at D11 ⊢
        cases hdd : (writeF st area n l).dead
        all_goals
          go_wp2_with fail
          go_ret
          refine ⟨ret_i (by rw [hdd]; rfl), ?_, fun k => O5 k ∨ k = gv, ⟨m, G5, D11⟩, ?_⟩
          · have hsub : ∀ x, (O5 x ∨ x = gv) → O x ∨ w.heap.size ≤ x := fun x hx => by
              rcases hx with hx | hx
              · rcases hO5sub x hx with h | h
                · exact .inl h
                · right; rw [hQ]; omega
              · right; rw [hQ]; omega
            refine Keeps.trans (Keeps.trans (Keeps.trans (Keeps.trans (Keeps.trans hK5 K58 (fun _ h => h.elim)) K89 (fun x hx => .inr (by rw [hQ]; omega))) Kd (fun _ h => h.elim)) K10 hsub) K11 hsub
          · intro k hk
            rcases hk with hk | hk
            · rcases hO5sub k hk with h | h
              · exact .inl h
              · right
                have h6 := (hO5Q k hk).2
                have := K10.size
                have := K11.size
                have : w9.drew.heap.size = w9.heap.size := rfl
                rw [hQ]; omega
            · right
              have := K10.size
              have := K11.size
              have : w9.drew.heap.size = w9.heap.size := rfl
              rw [hQ]; omega
  · skip
    rw [hF] at hL2
    obtain ⟨g, hg⟩ : ∃ g, G area = some g := by
      cases hg : G area with
      | some g => exact ⟨g, rfl⟩
      | none => rw [(hD.empty area hg).1 n] at hF; cases hF
    rw [hg] at hL1 hL2 hL3
    have hq : ∀ w : World, (binOp .eql 62 (.map (some g)) (.map none)).run Tryz.prog w = .ok (.bool false) w := fun w => run_eql_map_nil w _ _ _ (some g) Tryz.underlying62
    have HWF : Hid (writeF st area n l = stepF (putS st area n (Lv ++ [wholeI l], sb))) := by
      show _ = _
      unfold writeF
      rcases hFs with ⟨e, _⟩ | e
      · rw [e] at hF; cases hF
      · rw [e]
    obtain ⟨T, hTT⟩ : ∃ T, Q + 1 = T := ⟨_, rfl⟩
    have hsW : (w.alloc (.cells #[.slice av Lv.length cv, .bool sb] 68)).heap.size = T := by rw [← hTT]; simp [hQ]
    obtain ⟨O5, G5, D5, hg5, hO5Q, hO5sub, hV5⟩ : ∃ O5 G5, DiskIn O5 (w.alloc (.cells #[.slice av Lv.length cv, .bool sb] 68)) p m G5 st ∧ G5 area = some g ∧ (∀ k, O5 k → k ≠ Q ∧ k < T) ∧ (∀ k, O5 k → O k ∨ Q ≤ k) ∧ Vers O5 (w.alloc (.cells #[.slice av Lv.length cv, .bool sb] 68)) (.slice av Lv.length cv) Lv :=
      ⟨O, G, D1, hg, fun k hk => (by have := hO k hk; omega), fun k hk => .inl hk, hVw.keep (O' := fun _ => False) (Keeps.of_below (by rw [hQ]; exact hb)) (fun _ _ h => h)⟩
    have hg := hg5
    have hK5 : Keeps O w (w.alloc (.cells #[.slice av Lv.length cv, .bool sb] 68)) := Keeps.of_below (by rw [hQ]; exact hb)
    have bQW := bQ
    have hIW := hI1
    have hs5 := hs
    have hl5 := hleft
    have hTQ : Q < T := by omega
    obtain ⟨iw, hiw, hzw⟩ := info_whole
    have hu8 := size_u8
    go_enter Tryz.func57, Tryz.ntmps57
    go_wp2_with (first
      | (refine wpList_allocN _ (by rfl) _ rfl iw hiw _ hzw ?_; intro w6 hT hb6 hs6; have bQ6 := Blk.below bQW hb6 (by rw [hsW]; omega); have hI6 := hIW.below hb6; have hT' : Blk w6 T 119 (u8A 64 fun _ => 0) := (by rw [← hsW]; exact hT); obtain ⟨w7, kc, hrun7, hT7, hb7⟩ := copy_run hT' hI6 h3 hu8; have bQ7 := Blk.below bQ6 hb7 (by omega)))

    have hQ7 := (blk2 bQ7).1
    have hconv := conv_run (T := T) h3 hl255
    refine wp_region_noPanic ?_
    have hQlt : Q < w7.heap.size := Blk.lt bQ7
    obtain ⟨js, hjs, hjz, hjn, hjb⟩ := info_parts (show (Tryz.prog.info? 9).map (fun i => (i.zero, i.size, i.bytes)) = some (some (.string .empty), 1, 16) by kernel_rfl)
    have hlv42 : Lv.length < 4398046511104 := by
      rcases hFs with ⟨_, e, _⟩ | e
      · rw [e]; simp
      · exact hV Lv sb e
    have holds : ∀ b, av = some b → ∀ j u, (Lv.map Value.string)[j]? = some u → (w7.drew.alloc (.cells #[.string (wholeI l)] 9)).cell? (b.add j) = some u := by
      have hb57 : Below T (w.alloc (.cells #[.slice av Lv.length cv, .bool sb] 68)) (w7.drew.alloc (.cells #[.string (wholeI l)] 9)) := (by rw [← hsW]; exact hb6.trans ((hb7.mono (by omega)).trans ((below_alloc1 w7 _).mono (by have := hb7.size; omega))))
      exact (hV5.keep (O' := fun _ => False) (Keeps.of_below (by rw [hsW]; exact hb57)) (fun _ _ h => h)).src
    have hnewx : ∀ j u, [Value.string (wholeI l)][j]? = some u → (w7.drew.alloc (.cells #[.string (wholeI l)] 9)).cell? ((⟨w7.heap.size, 0, none⟩ : Addr).add j) = some u := by
      intro j u hj
      match j, hj with
      | 0, hj => simp at hj; subst hj; exact cell_new w7.drew _ _ _ rfl
      | j + 1, hj => simp at hj
    have hTlt : T < w7.heap.size := Blk.lt hT7
    refine wp_region_held_drew (S := fun w' => Blk w' T 119 (wholeC l)) (by kernel_rfl) hT7 (fun hHeld => ?_)
    refine wpAnyH_take (i := 0) (v := .pointer (some ⟨Q, 0, none⟩)) rfl (by kernel_rfl) (by kernel_rfl) (by kernel_rfl) (fun _ _ _ h => h) (.inl ⟨by rfl, by intro w hSw; go_simp⟩) hHeld ?_
    simp only [Act.put, List.getElem_toArray, List.getElem_cons_succ, List.getElem_cons_zero, List.setIfInBounds_toArray, List.set_cons_zero, List.set_cons_succ]
    refine wpAnyH_take (i := 3) (v := .slice (some ⟨T, 0, none⟩) 64 64) rfl (by kernel_rfl) (by kernel_rfl) (by kernel_rfl) (fun _ _ _ h => h) (.inl ⟨by rfl, by intro w hSw; go_simp⟩) hHeld ?_
    simp only [Act.put, List.getElem_toArray, List.getElem_cons_succ, List.getElem_cons_zero, List.setIfInBounds_toArray, List.set_cons_zero, List.set_cons_succ]
    refine wpAnyH_take (i := 4) (v := .string (wholeI l)) rfl (by kernel_rfl) (by kernel_rfl) (by kernel_rfl) (fun _ _ _ h => h) (.inl ⟨by rfl, by intro w hSw; have hx := hconv w hSw; go_simp⟩) hHeld ?_
    simp only [Act.put, List.getElem_toArray, List.getElem_cons_succ, List.getElem_cons_zero, List.setIfInBounds_toArray, List.set_cons_zero, List.set_cons_succ]
    have hQd : w7.drew.cell? ⟨Q, 0, none⟩ = some (.slice av Lv.length cv) := hQ7
    have hQx : (w7.drew.alloc (.cells #[.string (wholeI l)] 9)).cell? ⟨Q, 0, none⟩ = some (.slice av Lv.length cv) := ((below_alloc1 w7 (.cells #[.string (wholeI l)] 9)).cell (p := ⟨Q, 0, none⟩) hQlt).trans hQ7
    have hTx : Blk (w7.drew.alloc (.cells #[.string (wholeI l)] 9)) T 119 (wholeC l) := Blk.below hT7 (below_alloc1 w7 (.cells #[.string (wholeI l)] 9)) hTlt
    refine wpAnyH_ready (rs := [1, 5]) (by kernel_rfl) (by simp) ?_
    refine AllReadyH.cons rfl (fun K hK => ?_) (AllReadyH.cons rfl (fun K hK => ?_) AllReadyH.nil)
    · go_simp
      refine hK.out _ _ hT7 (fun hHeld => ?_)
      clear hK K
      refine wpAnyH_ready (rs := [2, 5]) (by kernel_rfl) (by simp) ?_
      refine AllReadyH.cons rfl (fun K hK => ?_) (AllReadyH.cons rfl (fun K hK => ?_) AllReadyH.nil)
      · go_simp
        refine (clip_any av Lv.length cv _ hlc hln0 (by omega)).mono ?_
        rintro e wz ⟨rfl, rfl⟩
        refine hK.out _ _ hT7 (fun hHeld => ?_)
        clear hK K
        refine wpAnyH_ready (rs := [5]) (by kernel_rfl) (by simp) ?_
        refine AllReadyH.cons rfl (fun K hK => ?_) AllReadyH.nil
        go_simp
        refine hK.out _ _ hTx (fun hHeld => ?_)
        clear hK K
        refine wpAnyH_ready (rs := [6]) (by kernel_rfl) (by simp) ?_
        refine AllReadyH.cons rfl (fun K hK => ?_) AllReadyH.nil
        refine step_append_grows rfl _ _ 38 rfl 9 js (.string .empty) 1 16 Tryz.underlying38 hjs hjz hjn hjb rfl (by decide) av Lv.length Lv.length (Lv.map .string) rfl (fun e => ⟨hln0 e, hln0 e⟩) (by simp) holds ⟨w7.heap.size, 0, none⟩ 1 1 [.string (wholeI l)] rfl rfl hnewx (by intro u hu; simp at hu; subst hu; rfl) (by omega) (by unfold maxLen; omega) (by omega) ?_
        intro v8 w8 hown8 hg8
        obtain ⟨gv, cp, hv8, hgv⟩ : ∃ gv cp, v8 = .slice (some ⟨gv, 0, none⟩) (Lv.length + 1) cp ∧ w7.heap.size ≤ gv := by
          rcases hown8.2 with ⟨_, h0⟩ | ⟨q, cap, _, hv, hb, _⟩
          · omega
          · exact ⟨q, cap, hv, Nat.le_trans (below_alloc1 w7 (.cells #[.string (wholeI l)] 9)).size hb⟩
        subst hv8
        have hb8 : Below w7.heap.size w7 w8 := (below_alloc1 w7 (.cells #[.string (wholeI l)] 9)).trans ((below_of_grown hg8 (Nat.le_refl _) (fun k hk => by cases hk)).mono (below_alloc1 w7 (.cells #[.string (wholeI l)] 9)).size)
        have bT8 := Blk.below hT7 hb8 hTlt
        have bQ8 := Blk.below bQ7 hb8 hQlt
        have qQ8 := (blk2 bQ8).1
        have fQ8 := Blk.free bQ8 0
        have hV8 : Vers (fun k => k = gv) w8 (.slice (some ⟨gv, 0, none⟩) (Lv.length + 1) cp) (Lv ++ [wholeI l]) := vers_own hown8 (by omega)
        refine hK.out _ _ bT8 (fun hHeld => ?_)
        clear hK K
        refine wpAnyH_take (i := 7) (v := .pointer (some ⟨Q, 0, none⟩)) rfl (by kernel_rfl) (by kernel_rfl) (by kernel_rfl) (fun _ _ _ h => h) (.inl ⟨by rfl, by intro w hSw; go_simp⟩) hHeld ?_
        simp only [Act.put, List.getElem_toArray, List.getElem_cons_succ, List.getElem_cons_zero, List.setIfInBounds_toArray, List.set_cons_zero, List.set_cons_succ]
        refine wpAnyH_ready (rs := [8]) (by kernel_rfl) (by simp) ?_
        refine AllReadyH.cons rfl (fun K hK => ?_) AllReadyH.nil
        go_simp
        refine hK.out _ _ (Blk.other bT8 (by show Q ≠ T; omega) _) (fun hHeld => ?_)
        clear hK K
        refine wpAnyH_done (by kernel_rfl) ?_ _
        refine NoPanic.normal ?_
        have hs8 := hb8.size
        have hb58 : Below T (w.alloc (.cells #[.slice av Lv.length cv, .bool sb] 68)) w8 := (by rw [← hsW]; exact hb6.trans ((hb7.mono (by omega)).trans (hb8.mono (by have := hb7.size; omega))))
        have K58 : Keeps (fun _ => False) (w.alloc (.cells #[.slice av Lv.length cv, .bool sb] 68)) w8 := Keeps.of_below (by rw [hsW]; exact hb58)
        have K89 : Keeps (fun k => k = Q) w8 (w8.setCell ⟨Q, 0, none⟩ (.slice (some ⟨gv, 0, none⟩) (Lv.length + 1) cp)) := set_keeps (Keeps.refl _ _) rfl (StrRow.no_blk bQ8 (by decide))
        have D8 := D5.keep K58 (fun _ _ h => h)
        have D9 := (D8.keep K89 (fun k hk e => (hO5Q k hk).1 e)).mono (O' := fun k => O5 k ∨ k = gv) (fun k hk => .inl hk)
        have V9 := (hV8.keep K89 (fun k hk e => by omega)).mono (O' := fun k => O5 k ∨ k = gv) (fun k hk => .inr hk)
        have q0 : (w8.setCell ⟨Q, 0, none⟩ (.slice (some ⟨gv, 0, none⟩) (Lv.length + 1) cp)).cell? ⟨Q, 0, none⟩ = some (.slice (some ⟨gv, 0, none⟩) (Lv.length + 1) cp) := by rw [Blk.cell (bQ8.set 0 _)]; rfl
        have q1 : (w8.setCell ⟨Q, 0, none⟩ (.slice (some ⟨gv, 0, none⟩) (Lv.length + 1) cp)).cell? ⟨Q, 1, none⟩ = some (.bool sb) := by rw [Blk.cell (bQ8.set 0 _)]; rfl
        have hs9 := K89.size
        obtain ⟨w9, hw9⟩ : ∃ w9, w8.setCell ⟨Q, 0, none⟩ (.slice (some ⟨gv, 0, none⟩) (Lv.length + 1) cp) = w9 := ⟨_, rfl⟩
        rw [hw9] at D9 V9 q0 q1 K89 hs9
        simp only [hw9]
        clear hw9
        have Kd : Keeps (fun _ => False) w9 w9.drew := Keeps.of_below ((Below.refl _ _).drew)
        have D9d := D9.keep Kd (fun _ _ h => h)
        have V9d := V9.keep Kd (fun _ _ h => h)
        obtain ⟨w10, hrun10, D10, K10⟩ := D9d.put hg hn (Nat.lt_of_lt_of_le hN (by unfold maxLen; omega)) (s := sb) V9d (by simp)
        have hnQ : ¬ (O5 Q ∨ Q = gv) := by
          rintro (h | h)
          · exact (hO5Q Q h).1 rfl
          · omega
        have hgv9 : gv < w9.heap.size := by
          obtain ⟨_, _, _, hv, _, _, hh⟩ := V9
          simp at hv
          obtain ⟨b', o', e1, _, e3, _⟩ := hh 0 (by simp)
          rw [← hv.1] at e1
          simp at e1
          omega
        have hQ9 : Q < w9.heap.size := by omega
        go_wp2_with fail
        refine wp_region_noPanic ?_
        refine wp_region_held_drew (S := fun w' => w'.cell? ⟨p, 2, none⟩ = some (.map (some m)) ∧ (Instr.lookup 45 (.map (some m)) (.int .u64 area) false).run Tryz.prog w' = .ok (.map (some g)) w' ∧ w'.cell? ⟨Q, 0, none⟩ = some (.slice (some ⟨gv, 0, none⟩) (Lv.length + 1) cp) ∧ w'.cell? ⟨Q, 1, none⟩ = some (.bool sb)) (by kernel_rfl) ⟨D9d.cells.2.2.1, (by have := D9d.area ha; rw [hg] at this; exact this), q0, q1⟩ (fun hHeld => ?_)
        refine wpAnyH_take (i := 0) (v := .pointer (some ⟨p, 0, none⟩)) rfl (by kernel_rfl) (by kernel_rfl) (by kernel_rfl) (fun _ _ _ h => h) (.inl ⟨by rfl, by intro w hSw; go_simp⟩) hHeld ?_
        simp only [Act.put, List.getElem_toArray, List.getElem_cons_succ, List.getElem_cons_zero, List.setIfInBounds_toArray, List.set_cons_zero, List.set_cons_succ]
        refine wpAnyH_take (i := 1) (v := .pointer (some ⟨p, 0, none⟩)) rfl (by kernel_rfl) (by kernel_rfl) (by kernel_rfl) (fun _ _ _ h => h) (.inl ⟨by rfl, by intro w hSw; go_simp⟩) hHeld ?_
        simp only [Act.put, List.getElem_toArray, List.getElem_cons_succ, List.getElem_cons_zero, List.setIfInBounds_toArray, List.set_cons_zero, List.set_cons_succ]
        refine wpAnyH_take (i := 2) (v := .pointer (some ⟨p, 2, none⟩)) rfl (by kernel_rfl) (by kernel_rfl) (by kernel_rfl) (fun _ _ _ h => h) (.inl ⟨by rfl, by intro w hSw; go_simp⟩) hHeld ?_
        simp only [Act.put, List.getElem_toArray, List.getElem_cons_succ, List.getElem_cons_zero, List.setIfInBounds_toArray, List.set_cons_zero, List.set_cons_succ]
        refine wpAnyH_take (i := 3) (v := .map (some m)) rfl (by kernel_rfl) (by kernel_rfl) (by kernel_rfl) (fun _ _ _ h => h) (.inl ⟨by rfl, by intro w hSw; have hx := hSw.1; go_simp⟩) hHeld ?_
        simp only [Act.put, List.getElem_toArray, List.getElem_cons_succ, List.getElem_cons_zero, List.setIfInBounds_toArray, List.set_cons_zero, List.set_cons_succ]
        refine wpAnyH_take (i := 4) (v := .int .u64 area) rfl (by kernel_rfl) (by kernel_rfl) (by kernel_rfl) (fun _ _ _ h => h) (.inl ⟨by rfl, by intro w hSw; go_simp⟩) hHeld ?_
        simp only [Act.put, List.getElem_toArray, List.getElem_cons_succ, List.getElem_cons_zero, List.setIfInBounds_toArray, List.set_cons_zero, List.set_cons_succ]
        refine wpAnyH_take (i := 5) (v := .map (some g)) rfl (by kernel_rfl) (by kernel_rfl) (by kernel_rfl) (fun _ _ _ h => h) (.inl ⟨by rfl, by intro w hSw; have hx := hSw.2.1; go_simp⟩) hHeld ?_
        simp only [Act.put, List.getElem_toArray, List.getElem_cons_succ, List.getElem_cons_zero, List.setIfInBounds_toArray, List.set_cons_zero, List.set_cons_succ]
        refine wpAnyH_take (i := 6) (v := .int .i64 n) rfl (by kernel_rfl) (by kernel_rfl) (by kernel_rfl) (fun _ _ _ h => h) (.inl ⟨by rfl, by intro w hSw; go_simp⟩) hHeld ?_
        simp only [Act.put, List.getElem_toArray, List.getElem_cons_succ, List.getElem_cons_zero, List.setIfInBounds_toArray, List.set_cons_zero, List.set_cons_succ]
        refine wpAnyH_take (i := 7) (v := .agg #[.slice (some ⟨gv, 0, none⟩) (Lv.length + 1) cp, .bool sb]) rfl (by kernel_rfl) (by kernel_rfl) (by kernel_rfl) (fun _ _ _ h => h) (.inl ⟨by rfl, by intro w hSw; have hx := hSw.2.2.1; have hy := hSw.2.2.2; go_simp⟩) hHeld ?_
        simp only [Act.put, List.getElem_toArray, List.getElem_cons_succ, List.getElem_cons_zero, List.setIfInBounds_toArray, List.set_cons_zero, List.set_cons_succ]
        refine wpAnyH_ready (rs := [8]) (by kernel_rfl) (by simp) ?_
        refine AllReadyH.cons rfl (fun K hK => ?_) AllReadyH.nil
        go_simp
        refine hK.out _ _ ⟨D10.cells.2.2.1, (by have := D10.area ha; rw [hg] at this; exact this), (K10.cell (p := ⟨Q, 0, none⟩) hQ9 hnQ).trans q0, (K10.cell (p := ⟨Q, 1, none⟩) hQ9 hnQ).trans q1⟩ (fun hHeld => ?_)
        clear hK K
        refine wpAnyH_done (by kernel_rfl) ?_ _
        refine NoPanic.normal ?_
        go_wp2_with fail
        refine (step_in _ p m G5 _ w10 D10 hs5 hl5).mono ?_
        rintro e w11 ⟨rfl, D11, K11⟩
        rw [← HWF.out] at D11 ⊢
        cases hdd : (writeF st area n l).dead
        all_goals
          go_wp2_with fail
          go_ret
          refine ⟨ret_i (by rw [hdd]; rfl), ?_, fun k => O5 k ∨ k = gv, ⟨m, G5, D11⟩, ?_⟩
          · have hsub : ∀ x, (O5 x ∨ x = gv) → O x ∨ w.heap.size ≤ x := fun x hx => by
              rcases hx with hx | hx
              · rcases hO5sub x hx with h | h
                · exact .inl h
                · right; rw [hQ]; omega
              · right; rw [hQ]; omega
            refine Keeps.trans (Keeps.trans (Keeps.trans (Keeps.trans (Keeps.trans hK5 K58 (fun _ h => h.elim)) K89 (fun x hx => .inr (by rw [hQ]; omega))) Kd (fun _ h => h.elim)) K10 hsub) K11 hsub
          · intro k hk
            rcases hk with hk | hk
            · rcases hO5sub k hk with h | h
              · exact .inl h
              · right
                have h6 := (hO5Q k hk).2
                have := K10.size
                have := K11.size
                have : w9.drew.heap.size = w9.heap.size := rfl
                rw [hQ]; omega
            · right
              have := K10.size
              have := K11.size
              have : w9.drew.heap.size = w9.heap.size := rfl
              rw [hQ]; omega
      · go_simp
        refine hK.out _ _ hTx (fun hHeld => ?_)
        clear hK K
        refine wpAnyH_ready (rs := [2]) (by kernel_rfl) (by simp) ?_
        refine AllReadyH.cons rfl (fun K hK => ?_) AllReadyH.nil
        go_simp
        refine (clip_any av Lv.length cv _ hlc hln0 (by omega)).mono ?_
        rintro e wz ⟨rfl, rfl⟩
        refine hK.out _ _ hTx (fun hHeld => ?_)
        clear hK K
        refine wpAnyH_ready (rs := [6]) (by kernel_rfl) (by simp) ?_
        refine AllReadyH.cons rfl (fun K hK => ?_) AllReadyH.nil
        refine step_append_grows rfl _ _ 38 rfl 9 js (.string .empty) 1 16 Tryz.underlying38 hjs hjz hjn hjb rfl (by decide) av Lv.length Lv.length (Lv.map .string) rfl (fun e => ⟨hln0 e, hln0 e⟩) (by simp) holds ⟨w7.heap.size, 0, none⟩ 1 1 [.string (wholeI l)] rfl rfl hnewx (by intro u hu; simp at hu; subst hu; rfl) (by omega) (by unfold maxLen; omega) (by omega) ?_
        intro v8 w8 hown8 hg8
        obtain ⟨gv, cp, hv8, hgv⟩ : ∃ gv cp, v8 = .slice (some ⟨gv, 0, none⟩) (Lv.length + 1) cp ∧ w7.heap.size ≤ gv := by
          rcases hown8.2 with ⟨_, h0⟩ | ⟨q, cap, _, hv, hb, _⟩
          · omega
          · exact ⟨q, cap, hv, Nat.le_trans (below_alloc1 w7 (.cells #[.string (wholeI l)] 9)).size hb⟩
        subst hv8
        have hb8 : Below w7.heap.size w7 w8 := (below_alloc1 w7 (.cells #[.string (wholeI l)] 9)).trans ((below_of_grown hg8 (Nat.le_refl _) (fun k hk => by cases hk)).mono (below_alloc1 w7 (.cells #[.string (wholeI l)] 9)).size)
        have bT8 := Blk.below hT7 hb8 hTlt
        have bQ8 := Blk.below bQ7 hb8 hQlt
        have qQ8 := (blk2 bQ8).1
        have fQ8 := Blk.free bQ8 0
        have hV8 : Vers (fun k => k = gv) w8 (.slice (some ⟨gv, 0, none⟩) (Lv.length + 1) cp) (Lv ++ [wholeI l]) := vers_own hown8 (by omega)
        refine hK.out _ _ bT8 (fun hHeld => ?_)
        clear hK K
        refine wpAnyH_take (i := 7) (v := .pointer (some ⟨Q, 0, none⟩)) rfl (by kernel_rfl) (by kernel_rfl) (by kernel_rfl) (fun _ _ _ h => h) (.inl ⟨by rfl, by intro w hSw; go_simp⟩) hHeld ?_
        simp only [Act.put, List.getElem_toArray, List.getElem_cons_succ, List.getElem_cons_zero, List.setIfInBounds_toArray, List.set_cons_zero, List.set_cons_succ]
        refine wpAnyH_ready (rs := [8]) (by kernel_rfl) (by simp) ?_
        refine AllReadyH.cons rfl (fun K hK => ?_) AllReadyH.nil
        go_simp
        refine hK.out _ _ (Blk.other bT8 (by show Q ≠ T; omega) _) (fun hHeld => ?_)
        clear hK K
        refine wpAnyH_done (by kernel_rfl) ?_ _
        refine NoPanic.normal ?_
        have hs8 := hb8.size
        have hb58 : Below T (w.alloc (.cells #[.slice av Lv.length cv, .bool sb] 68)) w8 := (by rw [← hsW]; exact hb6.trans ((hb7.mono (by omega)).trans (hb8.mono (by have := hb7.size; omega))))
        have K58 : Keeps (fun _ => False) (w.alloc (.cells #[.slice av Lv.length cv, .bool sb] 68)) w8 := Keeps.of_below (by rw [hsW]; exact hb58)
        have K89 : Keeps (fun k => k = Q) w8 (w8.setCell ⟨Q, 0, none⟩ (.slice (some ⟨gv, 0, none⟩) (Lv.length + 1) cp)) := set_keeps (Keeps.refl _ _) rfl (StrRow.no_blk bQ8 (by decide))
        have D8 := D5.keep K58 (fun _ _ h => h)
        have D9 := (D8.keep K89 (fun k hk e => (hO5Q k hk).1 e)).mono (O' := fun k => O5 k ∨ k = gv) (fun k hk => .inl hk)
        have V9 := (hV8.keep K89 (fun k hk e => by omega)).mono (O' := fun k => O5 k ∨ k = gv) (fun k hk => .inr hk)
        have q0 : (w8.setCell ⟨Q, 0, none⟩ (.slice (some ⟨gv, 0, none⟩) (Lv.length + 1) cp)).cell? ⟨Q, 0, none⟩ = some (.slice (some ⟨gv, 0, none⟩) (Lv.length + 1) cp) := by rw [Blk.cell (bQ8.set 0 _)]; rfl
        have q1 : (w8.setCell ⟨Q, 0, none⟩ (.slice (some ⟨gv, 0, none⟩) (Lv.length + 1) cp)).cell? ⟨Q, 1, none⟩ = some (.bool sb) := by rw [Blk.cell (bQ8.set 0 _)]; rfl
        have hs9 := K89.size
        obtain ⟨w9, hw9⟩ : ∃ w9, w8.setCell ⟨Q, 0, none⟩ (.slice (some ⟨gv, 0, none⟩) (Lv.length + 1) cp) = w9 := ⟨_, rfl⟩
        rw [hw9] at D9 V9 q0 q1 K89 hs9
        simp only [hw9]
        clear hw9
        have Kd : Keeps (fun _ => False) w9 w9.drew := Keeps.of_below ((Below.refl _ _).drew)
        have D9d := D9.keep Kd (fun _ _ h => h)
        have V9d := V9.keep Kd (fun _ _ h => h)
        obtain ⟨w10, hrun10, D10, K10⟩ := D9d.put hg hn (Nat.lt_of_lt_of_le hN (by unfold maxLen; omega)) (s := sb) V9d (by simp)
        have hnQ : ¬ (O5 Q ∨ Q = gv) := by
          rintro (h | h)
          · exact (hO5Q Q h).1 rfl
          · omega
        have hgv9 : gv < w9.heap.size := by
          obtain ⟨_, _, _, hv, _, _, hh⟩ := V9
          simp at hv
          obtain ⟨b', o', e1, _, e3, _⟩ := hh 0 (by simp)
          rw [← hv.1] at e1
          simp at e1
          omega
        have hQ9 : Q < w9.heap.size := by omega
        go_wp2_with fail
        refine wp_region_noPanic ?_
        refine wp_region_held_drew (S := fun w' => w'.cell? ⟨p, 2, none⟩ = some (.map (some m)) ∧ (Instr.lookup 45 (.map (some m)) (.int .u64 area) false).run Tryz.prog w' = .ok (.map (some g)) w' ∧ w'.cell? ⟨Q, 0, none⟩ = some (.slice (some ⟨gv, 0, none⟩) (Lv.length + 1) cp) ∧ w'.cell? ⟨Q, 1, none⟩ = some (.bool sb)) (by kernel_rfl) ⟨D9d.cells.2.2.1, (by have := D9d.area ha; rw [hg] at this; exact this), q0, q1⟩ (fun hHeld => ?_)
        refine wpAnyH_take (i := 0) (v := .pointer (some ⟨p, 0, none⟩)) rfl (by kernel_rfl) (by kernel_rfl) (by kernel_rfl) (fun _ _ _ h => h) (.inl ⟨by rfl, by intro w hSw; go_simp⟩) hHeld ?_
        simp only [Act.put, List.getElem_toArray, List.getElem_cons_succ, List.getElem_cons_zero, List.setIfInBounds_toArray, List.set_cons_zero, List.set_cons_succ]
        refine wpAnyH_take (i := 1) (v := .pointer (some ⟨p, 0, none⟩)) rfl (by kernel_rfl) (by kernel_rfl) (by kernel_rfl) (fun _ _ _ h => h) (.inl ⟨by rfl, by intro w hSw; go_simp⟩) hHeld ?_
        simp only [Act.put, List.getElem_toArray, List.getElem_cons_succ, List.getElem_cons_zero, List.setIfInBounds_toArray, List.set_cons_zero, List.set_cons_succ]
        refine wpAnyH_take (i := 2) (v := .pointer (some ⟨p, 2, none⟩)) rfl (by kernel_rfl) (by kernel_rfl) (by kernel_rfl) (fun _ _ _ h => h) (.inl ⟨by rfl, by intro w hSw; go_simp⟩) hHeld ?_
        simp only [Act.put, List.getElem_toArray, List.getElem_cons_succ, List.getElem_cons_zero, List.setIfInBounds_toArray, List.set_cons_zero, List.set_cons_succ]
        refine wpAnyH_take (i := 3) (v := .map (some m)) rfl (by kernel_rfl) (by kernel_rfl) (by kernel_rfl) (fun _ _ _ h => h) (.inl ⟨by rfl, by intro w hSw; have hx := hSw.1; go_simp⟩) hHeld ?_
        simp only [Act.put, List.getElem_toArray, List.getElem_cons_succ, List.getElem_cons_zero, List.setIfInBounds_toArray, List.set_cons_zero, List.set_cons_succ]
        refine wpAnyH_take (i := 4) (v := .int .u64 area) rfl (by kernel_rfl) (by kernel_rfl) (by kernel_rfl) (fun _ _ _ h => h) (.inl ⟨by rfl, by intro w hSw; go_simp⟩) hHeld ?_
        simp only [Act.put, List.getElem_toArray, List.getElem_cons_succ, List.getElem_cons_zero, List.setIfInBounds_toArray, List.set_cons_zero, List.set_cons_succ]
        refine wpAnyH_take (i := 5) (v := .map (some g)) rfl (by kernel_rfl) (by kernel_rfl) (by kernel_rfl) (fun _ _ _ h => h) (.inl ⟨by rfl, by intro w hSw; have hx := hSw.2.1; go_simp⟩) hHeld ?_
        simp only [Act.put, List.getElem_toArray, List.getElem_cons_succ, List.getElem_cons_zero, List.setIfInBounds_toArray, List.set_cons_zero, List.set_cons_succ]
        refine wpAnyH_take (i := 6) (v := .int .i64 n) rfl (by kernel_rfl) (by kernel_rfl) (by kernel_rfl) (fun _ _ _ h => h) (.inl ⟨by rfl, by intro w hSw; go_simp⟩) hHeld ?_
        simp only [Act.put, List.getElem_toArray, List.getElem_cons_succ, List.getElem_cons_zero, List.setIfInBounds_toArray, List.set_cons_zero, List.set_cons_succ]
        refine wpAnyH_take (i := 7) (v := .agg #[.slice (some ⟨gv, 0, none⟩) (Lv.length + 1) cp, .bool sb]) rfl (by kernel_rfl) (by kernel_rfl) (by kernel_rfl) (fun _ _ _ h => h) (.inl ⟨by rfl, by intro w hSw; have hx := hSw.2.2.1; have hy := hSw.2.2.2; go_simp⟩) hHeld ?_
        simp only [Act.put, List.getElem_toArray, List.getElem_cons_succ, List.getElem_cons_zero, List.setIfInBounds_toArray, List.set_cons_zero, List.set_cons_succ]
        refine wpAnyH_ready (rs := [8]) (by kernel_rfl) (by simp) ?_
        refine AllReadyH.cons rfl (fun K hK => ?_) AllReadyH.nil
        go_simp
        refine hK.out _ _ ⟨D10.cells.2.2.1, (by have := D10.area ha; rw [hg] at this; exact this), (K10.cell (p := ⟨Q, 0, none⟩) hQ9 hnQ).trans q0, (K10.cell (p := ⟨Q, 1, none⟩) hQ9 hnQ).trans q1⟩ (fun hHeld => ?_)
        clear hK K
        refine wpAnyH_done (by kernel_rfl) ?_ _
        refine NoPanic.normal ?_
        go_wp2_with fail
        refine (step_in _ p m G5 _ w10 D10 hs5 hl5).mono ?_
        rintro e w11 ⟨rfl, D11, K11⟩
        rw [← HWF.out] at D11 ⊢
        cases hdd : (writeF st area n l).dead
        all_goals
          go_wp2_with fail
          go_ret
          refine ⟨ret_i (by rw [hdd]; rfl), ?_, fun k => O5 k ∨ k = gv, ⟨m, G5, D11⟩, ?_⟩
          · have hsub : ∀ x, (O5 x ∨ x = gv) → O x ∨ w.heap.size ≤ x := fun x hx => by
              rcases hx with hx | hx
              · rcases hO5sub x hx with h | h
                · exact .inl h
                · right; rw [hQ]; omega
              · right; rw [hQ]; omega
            refine Keeps.trans (Keeps.trans (Keeps.trans (Keeps.trans (Keeps.trans hK5 K58 (fun _ h => h.elim)) K89 (fun x hx => .inr (by rw [hQ]; omega))) Kd (fun _ h => h.elim)) K10 hsub) K11 hsub
          · intro k hk
            rcases hk with hk | hk
            · rcases hO5sub k hk with h | h
              · exact .inl h
              · right
                have h6 := (hO5Q k hk).2
                have := K10.size
                have := K11.size
                have : w9.drew.heap.size = w9.heap.size := rfl
                rw [hQ]; omega
            · right
              have := K10.size
              have := K11.size
              have : w9.drew.heap.size = w9.heap.size := rfl
              rw [hQ]; omega
    · go_simp
      refine hK.out _ _ hTx (fun hHeld => ?_)
      clear hK K
      refine wpAnyH_ready (rs := [1]) (by kernel_rfl) (by simp) ?_
      refine AllReadyH.cons rfl (fun K hK => ?_) AllReadyH.nil
      go_simp
      refine hK.out _ _ hTx (fun hHeld => ?_)
      clear hK K
      refine wpAnyH_ready (rs := [2]) (by kernel_rfl) (by simp) ?_
      refine AllReadyH.cons rfl (fun K hK => ?_) AllReadyH.nil
      go_simp
      refine (clip_any av Lv.length cv _ hlc hln0 (by omega)).mono ?_
      rintro e wz ⟨rfl, rfl⟩
      refine hK.out _ _ hTx (fun hHeld => ?_)
      clear hK K
      refine wpAnyH_ready (rs := [6]) (by kernel_rfl) (by simp) ?_
      refine AllReadyH.cons rfl (fun K hK => ?_) AllReadyH.nil
      refine step_append_grows rfl _ _ 38 rfl 9 js (.string .empty) 1 16 Tryz.underlying38 hjs hjz hjn hjb rfl (by decide) av Lv.length Lv.length (Lv.map .string) rfl (fun e => ⟨hln0 e, hln0 e⟩) (by simp) holds ⟨w7.heap.size, 0, none⟩ 1 1 [.string (wholeI l)] rfl rfl hnewx (by intro u hu; simp at hu; subst hu; rfl) (by omega) (by unfold maxLen; omega) (by omega) ?_
      intro v8 w8 hown8 hg8
      obtain ⟨gv, cp, hv8, hgv⟩ : ∃ gv cp, v8 = .slice (some ⟨gv, 0, none⟩) (Lv.length + 1) cp ∧ w7.heap.size ≤ gv := by
        rcases hown8.2 with ⟨_, h0⟩ | ⟨q, cap, _, hv, hb, _⟩
        · omega
        · exact ⟨q, cap, hv, Nat.le_trans (below_alloc1 w7 (.cells #[.string (wholeI l)] 9)).size hb⟩
      subst hv8
      have hb8 : Below w7.heap.size w7 w8 := (below_alloc1 w7 (.cells #[.string (wholeI l)] 9)).trans ((below_of_grown hg8 (Nat.le_refl _) (fun k hk => by cases hk)).mono (below_alloc1 w7 (.cells #[.string (wholeI l)] 9)).size)
      have bT8 := Blk.below hT7 hb8 hTlt
      have bQ8 := Blk.below bQ7 hb8 hQlt
      have qQ8 := (blk2 bQ8).1
      have fQ8 := Blk.free bQ8 0
      have hV8 : Vers (fun k => k = gv) w8 (.slice (some ⟨gv, 0, none⟩) (Lv.length + 1) cp) (Lv ++ [wholeI l]) := vers_own hown8 (by omega)
      refine hK.out _ _ bT8 (fun hHeld => ?_)
      clear hK K
      refine wpAnyH_take (i := 7) (v := .pointer (some ⟨Q, 0, none⟩)) rfl (by kernel_rfl) (by kernel_rfl) (by kernel_rfl) (fun _ _ _ h => h) (.inl ⟨by rfl, by intro w hSw; go_simp⟩) hHeld ?_
      simp only [Act.put, List.getElem_toArray, List.getElem_cons_succ, List.getElem_cons_zero, List.setIfInBounds_toArray, List.set_cons_zero, List.set_cons_succ]
      refine wpAnyH_ready (rs := [8]) (by kernel_rfl) (by simp) ?_
      refine AllReadyH.cons rfl (fun K hK => ?_) AllReadyH.nil
      go_simp
      refine hK.out _ _ (Blk.other bT8 (by show Q ≠ T; omega) _) (fun hHeld => ?_)
      clear hK K
      refine wpAnyH_done (by kernel_rfl) ?_ _
      refine NoPanic.normal ?_
      have hs8 := hb8.size
      have hb58 : Below T (w.alloc (.cells #[.slice av Lv.length cv, .bool sb] 68)) w8 := (by rw [← hsW]; exact hb6.trans ((hb7.mono (by omega)).trans (hb8.mono (by have := hb7.size; omega))))
      have K58 : Keeps (fun _ => False) (w.alloc (.cells #[.slice av Lv.length cv, .bool sb] 68)) w8 := Keeps.of_below (by rw [hsW]; exact hb58)
      have K89 : Keeps (fun k => k = Q) w8 (w8.setCell ⟨Q, 0, none⟩ (.slice (some ⟨gv, 0, none⟩) (Lv.length + 1) cp)) := set_keeps (Keeps.refl _ _) rfl (StrRow.no_blk bQ8 (by decide))
      have D8 := D5.keep K58 (fun _ _ h => h)
      have D9 := (D8.keep K89 (fun k hk e => (hO5Q k hk).1 e)).mono (O' := fun k => O5 k ∨ k = gv) (fun k hk => .inl hk)
      have V9 := (hV8.keep K89 (fun k hk e => by omega)).mono (O' := fun k => O5 k ∨ k = gv) (fun k hk => .inr hk)
      have q0 : (w8.setCell ⟨Q, 0, none⟩ (.slice (some ⟨gv, 0, none⟩) (Lv.length + 1) cp)).cell? ⟨Q, 0, none⟩ = some (.slice (some ⟨gv, 0, none⟩) (Lv.length + 1) cp) := by rw [Blk.cell (bQ8.set 0 _)]; rfl
      have q1 : (w8.setCell ⟨Q, 0, none⟩ (.slice (some ⟨gv, 0, none⟩) (Lv.length + 1) cp)).cell? ⟨Q, 1, none⟩ = some (.bool sb) := by rw [Blk.cell (bQ8.set 0 _)]; rfl
      have hs9 := K89.size
      obtain ⟨w9, hw9⟩ : ∃ w9, w8.setCell ⟨Q, 0, none⟩ (.slice (some ⟨gv, 0, none⟩) (Lv.length + 1) cp) = w9 := ⟨_, rfl⟩
      rw [hw9] at D9 V9 q0 q1 K89 hs9
      simp only [hw9]
      clear hw9
      have Kd : Keeps (fun _ => False) w9 w9.drew := Keeps.of_below ((Below.refl _ _).drew)
      have D9d := D9.keep Kd (fun _ _ h => h)
      have V9d := V9.keep Kd (fun _ _ h => h)
      obtain ⟨w10, hrun10, D10, K10⟩ := D9d.put hg hn (Nat.lt_of_lt_of_le hN (by unfold maxLen; omega)) (s := sb) V9d (by simp)
      have hnQ : ¬ (O5 Q ∨ Q = gv) := by
        rintro (h | h)
        · exact (hO5Q Q h).1 rfl
        · omega
      have hgv9 : gv < w9.heap.size := by
        obtain ⟨_, _, _, hv, _, _, hh⟩ := V9
        simp at hv
        obtain ⟨b', o', e1, _, e3, _⟩ := hh 0 (by simp)
        rw [← hv.1] at e1
        simp at e1
        omega
      have hQ9 : Q < w9.heap.size := by omega
      go_wp2_with fail
      refine wp_region_noPanic ?_
      refine wp_region_held_drew (S := fun w' => w'.cell? ⟨p, 2, none⟩ = some (.map (some m)) ∧ (Instr.lookup 45 (.map (some m)) (.int .u64 area) false).run Tryz.prog w' = .ok (.map (some g)) w' ∧ w'.cell? ⟨Q, 0, none⟩ = some (.slice (some ⟨gv, 0, none⟩) (Lv.length + 1) cp) ∧ w'.cell? ⟨Q, 1, none⟩ = some (.bool sb)) (by kernel_rfl) ⟨D9d.cells.2.2.1, (by have := D9d.area ha; rw [hg] at this; exact this), q0, q1⟩ (fun hHeld => ?_)
      refine wpAnyH_take (i := 0) (v := .pointer (some ⟨p, 0, none⟩)) rfl (by kernel_rfl) (by kernel_rfl) (by kernel_rfl) (fun _ _ _ h => h) (.inl ⟨by rfl, by intro w hSw; go_simp⟩) hHeld ?_
      simp only [Act.put, List.getElem_toArray, List.getElem_cons_succ, List.getElem_cons_zero, List.setIfInBounds_toArray, List.set_cons_zero, List.set_cons_succ]
      refine wpAnyH_take (i := 1) (v := .pointer (some ⟨p, 0, none⟩)) rfl (by kernel_rfl) (by kernel_rfl) (by kernel_rfl) (fun _ _ _ h => h) (.inl ⟨by rfl, by intro w hSw; go_simp⟩) hHeld ?_
      simp only [Act.put, List.getElem_toArray, List.getElem_cons_succ, List.getElem_cons_zero, List.setIfInBounds_toArray, List.set_cons_zero, List.set_cons_succ]
      refine wpAnyH_take (i := 2) (v := .pointer (some ⟨p, 2, none⟩)) rfl (by kernel_rfl) (by kernel_rfl) (by kernel_rfl) (fun _ _ _ h => h) (.inl ⟨by rfl, by intro w hSw; go_simp⟩) hHeld ?_
      simp only [Act.put, List.getElem_toArray, List.getElem_cons_succ, List.getElem_cons_zero, List.setIfInBounds_toArray, List.set_cons_zero, List.set_cons_succ]
      refine wpAnyH_take (i := 3) (v := .map (some m)) rfl (by kernel_rfl) (by kernel_rfl) (by kernel_rfl) (fun _ _ _ h => h) (.inl ⟨by rfl, by intro w hSw; have hx := hSw.1; go_simp⟩) hHeld ?_
      simp only [Act.put, List.getElem_toArray, List.getElem_cons_succ, List.getElem_cons_zero, List.setIfInBounds_toArray, List.set_cons_zero, List.set_cons_succ]
      refine wpAnyH_take (i := 4) (v := .int .u64 area) rfl (by kernel_rfl) (by kernel_rfl) (by kernel_rfl) (fun _ _ _ h => h) (.inl ⟨by rfl, by intro w hSw; go_simp⟩) hHeld ?_
      simp only [Act.put, List.getElem_toArray, List.getElem_cons_succ, List.getElem_cons_zero, List.setIfInBounds_toArray, List.set_cons_zero, List.set_cons_succ]
      refine wpAnyH_take (i := 5) (v := .map (some g)) rfl (by kernel_rfl) (by kernel_rfl) (by kernel_rfl) (fun _ _ _ h => h) (.inl ⟨by rfl, by intro w hSw; have hx := hSw.2.1; go_simp⟩) hHeld ?_
      simp only [Act.put, List.getElem_toArray, List.getElem_cons_succ, List.getElem_cons_zero, List.setIfInBounds_toArray, List.set_cons_zero, List.set_cons_succ]
      refine wpAnyH_take (i := 6) (v := .int .i64 n) rfl (by kernel_rfl) (by kernel_rfl) (by kernel_rfl) (fun _ _ _ h => h) (.inl ⟨by rfl, by intro w hSw; go_simp⟩) hHeld ?_
      simp only [Act.put, List.getElem_toArray, List.getElem_cons_succ, List.getElem_cons_zero, List.setIfInBounds_toArray, List.set_cons_zero, List.set_cons_succ]
      refine wpAnyH_take (i := 7) (v := .agg #[.slice (some ⟨gv, 0, none⟩) (Lv.length + 1) cp, .bool sb]) rfl (by kernel_rfl) (by kernel_rfl) (by kernel_rfl) (fun _ _ _ h => h) (.inl ⟨by rfl, by intro w hSw; have hx := hSw.2.2.1; have hy := hSw.2.2.2; go_simp⟩) hHeld ?_
      simp only [Act.put, List.getElem_toArray, List.getElem_cons_succ, List.getElem_cons_zero, List.setIfInBounds_toArray, List.set_cons_zero, List.set_cons_succ]
      refine wpAnyH_ready (rs := [8]) (by kernel_rfl) (by simp) ?_
      refine AllReadyH.cons rfl (fun K hK => ?_) AllReadyH.nil
      go_simp
      refine hK.out _ _ ⟨D10.cells.2.2.1, (by have := D10.area ha; rw [hg] at this; exact this), (K10.cell (p := ⟨Q, 0, none⟩) hQ9 hnQ).trans q0, (K10.cell (p := ⟨Q, 1, none⟩) hQ9 hnQ).trans q1⟩ (fun hHeld => ?_)
      clear hK K
      refine wpAnyH_done (by kernel_rfl) ?_ _
      refine NoPanic.normal ?_
      go_wp2_with fail
      refine (step_in _ p m G5 _ w10 D10 hs5 hl5).mono ?_
      rintro e w11 ⟨rfl, D11, K11⟩
      rw [← HWF.out] at D11 ⊢
      cases hdd : (writeF st area n l).dead
      all_goals
        go_wp2_with fail
        go_ret
        refine ⟨ret_i (by rw [hdd]; rfl), ?_, fun k => O5 k ∨ k = gv, ⟨m, G5, D11⟩, ?_⟩
        · have hsub : ∀ x, (O5 x ∨ x = gv) → O x ∨ w.heap.size ≤ x := fun x hx => by
            rcases hx with hx | hx
            · rcases hO5sub x hx with h | h
              · exact .inl h
              · right; rw [hQ]; omega
            · right; rw [hQ]; omega
          refine Keeps.trans (Keeps.trans (Keeps.trans (Keeps.trans (Keeps.trans hK5 K58 (fun _ h => h.elim)) K89 (fun x hx => .inr (by rw [hQ]; omega))) Kd (fun _ h => h.elim)) K10 hsub) K11 hsub
        · intro k hk
          rcases hk with hk | hk
          · rcases hO5sub k hk with h | h
            · exact .inl h
            · right
              have h6 := (hO5Q k hk).2
              have := K10.size
              have := K11.size
              have : w9.drew.heap.size = w9.heap.size := rfl
              rw [hQ]; omega
          · right
            have := K10.size
            have := K11.size
            have : w9.drew.heap.size = w9.heap.size := rfl
            rw [hQ]; omega
end Go.Proofs.YtcpkpljeimbdiaaGreat.K
