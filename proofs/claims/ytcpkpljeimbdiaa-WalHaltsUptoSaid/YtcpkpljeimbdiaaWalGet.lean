/-
  Get; Sync.
-/
import Derived.Test.YtcpkpljeimbdiaaWalSt
import Derived.Test.YtcpkpljeimbdiaaWalRow
import Derived.Deep.QuietTactic
import Derived.BigQuiet
import Derived.Deep.RegionHeld3
namespace Go.Proofs.Ytcpkpljeimbdiaa.W
open Go.RowKit
open Aid K
set_option linter.unusedSimpArgs false
set_option linter.unusedVariables false

/-- records in memory, in blocks that Q does not name -/
structure Recs (Q : Nat → Prop) (w : World) (lv : Value) (L : List (List Int)) (vs : List Value) : Prop where
  len : vs.length = L.length
  row : OffRow w 28 1 lv vs.length vs
  ints : ∀ (j : Nat) (v : Value) (l : List Int), vs[j]? = some v → L[j]? = some l → Ints w .u8 v l ∧ ∀ k, v.ownBlock = some k → ¬ Q k ∧ k < w.heap.size
def GetEnd (L : List (List Int)) (first i : Int) (w : World) (e : Ending) (w' : World) : Prop :=
  Below w.heap.size w w' ∧ ((i < first ∨ first + L.length ≤ i) → e = .returned (.tuple #[.slice none 0 0, .bool false])) ∧
    (∀ (j : Nat) (l : List Int), i = first + j → L[j]? = some l → ∃ v, e = .returned (.tuple #[v, .bool true]) ∧ Own w' w.heap.size v l)
set_option maxRecDepth 100000 in
set_option maxHeartbeats 2000000 in
theorem get_any (Q : Nat → Prop) (g : Nat) (o : Value) (d : Nat) (first : Int) (lv old : Value) (next code : Int) (L : List (List Int)) (vs : List Value) (i : Int) (w : World) (h : Blk w g 77 (walV o d first lv old next code)) (hR : Recs Q w lv L vs)
    (hf : 0 ≤ first ∧ first < 18446744073709551616) (hi : 0 ≤ i ∧ i < 18446744073709551616) (hL : L.length < 4611686018427387904) :
    Calls Try.prog 30 #[.pointer (some ⟨g, 0, none⟩), .int .u64 i] w (GetEnd L first i w) := by
  obtain ⟨a, c, rfl, hnc, hz⟩ := hR.row.slice
  have HL := hR.len
  obtain ⟨c0, c1, c2, c3, c4, c5, c6⟩ := blk7 h
  have hwn : IntKind.u64.wrap (vs.length : Int) = (vs.length : Int) := by rw [IntKind.wrap_u64]; omega
  by_cases h1 : i < first
  · go_enter Try.func30, Try.ntmps30
    go_wp2_with fail
    go_quiet (fail)
    go_wp2_with fail
    go_ret2
    exact ⟨below_drewN (Below.refl _ _) nq, fun _ => rfl, fun j l e => by omega⟩
  · obtain ⟨j, hj⟩ : ∃ j : Nat, i = first + j := ⟨(i - first).toNat, by omega⟩
    have hsub : IntKind.u64.wrap (i - first) = (j : Int) := by rw [IntKind.wrap_u64]; omega
    have hdec : decide (i < first) = false := decide_eq_false h1
    have HJ := Lib.hid hj
    clear hj
    by_cases h2 : vs.length ≤ j
    · have h2' : (vs.length : Int) ≤ (j : Int) := by omega
      go_enter Try.func30, Try.ntmps30
      go_wp2_with fail
      go_quiet (fail)
      go_wp2_with fail
      go_ret2
      refine ⟨below_drewN (Below.refl _ _) nq, fun _ => rfl, fun j' l e hl => ?_⟩
      have := (List.getElem?_eq_some_iff.1 hl).1
      have := HJ.out
      omega
    · have h2' : ¬ ((vs.length : Int) ≤ (j : Int)) := by omega
      have hdec2 : decide ((vs.length : Int) ≤ (j : Int)) = false := decide_eq_false h2'
      obtain ⟨v, hv⟩ : ∃ v, vs[j]? = some v := ⟨_, List.getElem?_eq_getElem (by omega)⟩
      obtain ⟨l, hl⟩ : ∃ l, L[j]? = some l := ⟨_, List.getElem?_eq_getElem (by omega)⟩
      have hI := (hR.ints j v l hv hl).1
      have hcl := clone_any v l w hI
      obtain ⟨hl0, ⟨e0, e1⟩ | ⟨b, off, cap, cur, e0, hb, e1, e2, e3, e4⟩⟩ := hR.row
      · omega
      · cases e0
        have hcell : w.cell? ⟨b, off + j, none⟩ = some v := (hb.cell _).trans (e4 j v hv)
        have hjn : j < vs.length := by omega
        have HI := Lib.hid hI
        have HCL := Lib.hid hcl
        have HVV := Lib.hid (And.intro hv (And.intro hl HJ.out))
        have hgl := Blk.lt h
        have hbl := Blk.lt hb
        have HLE := Lib.hid HL
        clear hI hcl hv hl e4 hb hl0 hR h HL
        go_enter Try.func30, Try.ntmps30
        go_wp2_with fail
        go_quiet (fail)
        go_wp2_with fail
        obtain ⟨wa, hwa⟩ : ∃ wa, w.drewN nq = wa := ⟨_, rfl⟩
        have hbwa : Below w.heap.size w wa := by rw [← hwa]; exact below_drewN (Below.refl _ _) nq
        rw [hwa]
        have hsz : wa.heap.size = w.heap.size := by rw [← hwa]; rfl
        have HALL := Lib.hid (show ∀ w', Below wa.heap.size wa w' → Below wa.heap.size wa w' ∧ w'.cell? ⟨g, 2, none⟩ = some (.int .u64 first) ∧ w'.cell? ⟨g, 3, none⟩ = some (.slice (some ⟨b, off, none⟩) vs.length c) ∧ w'.cell? ⟨b, off + j, none⟩ = some v from fun w' hb' => by
          have hb2 := hbwa.trans (hb'.mono hbwa.size)
          exact ⟨hb', (hb2.cell (p := ⟨g, 2, none⟩) hgl).trans c2, (hb2.cell (p := ⟨g, 3, none⟩) hgl).trans c3, (hb2.cell (p := ⟨b, off + j, none⟩) hbl).trans hcell⟩)
        have HCW := Lib.hid (show ∀ w', Below wa.heap.size wa w' → Calls Try.prog 47 #[v] w' fun e w2 => ∃ v', e = .returned v' ∧ Own w2 w'.heap.size v' l ∧ Below w'.heap.size w' w2 from fun w' hb' => clone_any v l w' (HI.out.below (hbwa.trans (hb'.mono hbwa.size))))
        have hS0 := HALL.out _ (Below.refl _ _)
        go_region_held3 (fun w' => Below wa.heap.size wa w' ∧ w'.cell? ⟨g, 2, none⟩ = some (.int .u64 first) ∧ w'.cell? ⟨g, 3, none⟩ = some (.slice (some ⟨b, off, none⟩) vs.length c) ∧ w'.cell? ⟨b, off + j, none⟩ = some v) (first | assumption | (exact HALL.out _ (Below.drew (And.left (by assumption)))) | (exact HALL.out _ (by assumption))) (first
          | (go_at_call 47; refine (HCW.out _ (And.left (by assumption))).mono ?_; rintro e wz ⟨v', rfl, hov, hbz⟩; have hz := (And.left (by assumption) : Below wa.heap.size wa _).trans (hbz.mono (And.left (by assumption) : Below wa.heap.size wa _).size)))
        all_goals
          have hov2 : Own wz w.heap.size v' l := own_base hov (by show w.heap.size ≤ wa.heap.size; omega)
          have HOV := Lib.hid hov2
          have HBZ := Lib.hid (hbwa.trans (hz.mono hbwa.size))
          clear hov hov2 hbz hz
          go_wp2_with fail
          go_ret2
          refine ⟨HBZ.out, fun hh => ?_, fun j' l' e hl' => ?_⟩
          · have h3 := HVV.out.2.2
            have h4 := HLE.out
            omega
          · have h3 := HVV.out.2.2
            obtain rfl : j' = j := by omega
            rw [HVV.out.2.1] at hl'
            cases hl'
            exact ⟨v', rfl, HOV.out⟩
end Go.Proofs.Ytcpkpljeimbdiaa.W
