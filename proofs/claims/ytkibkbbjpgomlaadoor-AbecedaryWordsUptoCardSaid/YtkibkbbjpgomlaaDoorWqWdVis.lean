/-
  WdVis.
-/
import Derived.Test.YtkibkbbjpgomlaaDoorWqWdForm
namespace Go.Proofs.YtkibkbbjpgomlaaDoor.F
open Go.RowKit Go.Shelf Go.Maps
open Aid L LM
set_option linter.unusedSimpArgs false
set_option linter.unusedVariables false
attribute [local go_sem] Oper.semAt_some

def seenA (N nx : Nat) : Array Value := Array.ofFn (n := N) fun j => .bool (decide (j.1 < nx))
theorem seenA_at {N nx j : Nat} (h : j < N) : (seenA N nx)[j]? = some (.bool (decide (j < nx))) := by
  unfold seenA
  rw [Array.getElem?_eq_getElem (by simpa using h)]
  simp
theorem seenA_set {N i : Nat} (h : i < N) : (seenA N i).setIfInBounds i (.bool true) = seenA N (i + 1) := by
  apply Array.ext
  · simp [seenA]
  · intro j h1 h2
    have hj : j < N := by simpa [seenA] using h2
    rw [Array.getElem_setIfInBounds (by simpa [seenA] using hj)]
    by_cases e : i = j
    · subst e
      rw [if_pos rfl]
      simp [seenA]
    · rw [if_neg e]
      simp only [seenA, Array.getElem_ofFn]
      congr 1
      by_cases hlt : j < i
      · rw [decide_eq_true hlt, decide_eq_true (by omega)]
      · rw [decide_eq_false hlt, decide_eq_false (by omega)]
/-- a machine, which states were seen, how many -/
structure Vis (M SB VB NB SR : Nat) (B : Int) (sv : Value) (S : List StM) (w : World) (nx : Nat) : Prop where
  mb : Blk w M 25 #[.int .i64 B, sv]
  st : StatesAre (fun x => x = NB ∨ x = SR) w sv S
  sb : Blk w SB 109 #[.slice (some ⟨SR, 0, none⟩) S.length S.length]
  sr : Blk w SR 4 (seenA S.length nx)
  vb : Blk w VB 110 #[.func (.func 46) #[] #[.pointer (some ⟨M, 0, none⟩), .pointer (some ⟨SB, 0, none⟩), .pointer (some ⟨VB, 0, none⟩), .pointer (some ⟨NB, 0, none⟩)]]
  nb : Blk w NB 3 #[.int .i64 nx]
  ne : M ≠ NB ∧ M ≠ SR ∧ SB ≠ NB ∧ SB ≠ SR ∧ VB ≠ NB ∧ VB ≠ SR ∧ NB ≠ SR
theorem Vis.below {M SB VB NB SR : Nat} {B : Int} {sv : Value} {S : List StM} {w w' : World} {nx : Nat} (h : Vis M SB VB NB SR B sv S w nx) (hb : Below w.heap.size w w') : Vis M SB VB NB SR B sv S w' nx :=
  ⟨h.mb.below hb h.mb.lt, h.st.below hb, h.sb.below hb h.sb.lt, h.sr.below hb h.sr.lt, h.vb.below hb h.vb.lt, h.nb.below hb h.nb.lt, h.ne⟩
def VisEnd (M SB VB NB SR : Nat) (B : Int) (sv : Value) (S : List StM) (w : World) (nx : Nat) (e : Ending) (w' : World) : Prop := e = .returned (.bool true) ∧ Vis M SB VB NB SR B sv S w' nx ∧ Turn (fun x => x = NB ∨ x = SR) w w'
set_option maxRecDepth 100000 in
set_option maxHeartbeats 8000000 in
theorem visit_any (M SB VB NB SR : Nat) (B : Int) (sv : Value) (S : List StM) (hI : Inv S) : ∀ (n nx i nx' : Nat) (w : World), visitF n S nx i = some nx' → i < S.length → Vis M SB VB NB SR B sv S w nx →
    Calls Tryd.prog 46 #[.int .i64 i, .pointer (some ⟨M, 0, none⟩), .pointer (some ⟨SB, 0, none⟩), .pointer (some ⟨VB, 0, none⟩), .pointer (some ⟨NB, 0, none⟩)] w (VisEnd M SB VB NB SR B sv S w nx') := by
  intro n
  induction n with
  | zero => intro nx i nx' w h; cases h
  | succ n ih =>
    intro nx i nx' w h hi hV
    obtain ⟨s, hs⟩ : ∃ s, S[i]? = some s := ⟨_, List.getElem?_eq_getElem hi⟩
    unfold visitF at h
    rw [stA_some hs] at h
    cases harc : arcsV (visitF n S) nx s.arcs with
    | none => rw [harc] at h; cases h
    | some m =>
    rw [harc] at h
    by_cases hmn : ¬ m = i
    · simp [hmn] at h
    have hm := Decidable.not_not.1 hmn
    clear hmn
    subst hm
    obtain rfl : m + 1 = nx' := by simpa using h
    clear h
    obtain ⟨A, hA⟩ : ∃ A, s.arcs = A := ⟨_, rfl⟩
    rw [hA] at harc
    obtain ⟨a, cp, rfl⟩ := hV.st.slice
    have hSl := hV.st.len
    obtain ⟨g, off, u, rfl, hg, hgO, c0, c1, c2, hu⟩ := hV.st.at_ hs
    rw [hA] at hu
    obtain ⟨ua, uc, rfl⟩ := hu.slice
    have hul : A.length ≤ 1000000 := by obtain ⟨_, _, _, h, _⟩ := hu; exact h
    have hto : ∀ y ∈ A, 0 ≤ y.to_ ∧ y.to_.toNat < m := fun y hy => by
      have := hI m s hs y (by rw [hA]; exact hy)
      omega
    have m1 : w.cell? ⟨M, 1, none⟩ = some (.slice (some ⟨g, off, none⟩) S.length cp) := (Blk.cell hV.mb 1).trans rfl
    obtain ⟨N, hN⟩ : ∃ N, S.length = N := ⟨_, rfl⟩
    obtain ⟨q, hq⟩ : ∃ q, A.length = q := ⟨_, rfl⟩
    rw [hN] at m1 hSl ih
    rw [hq] at c2 hul
    have hi1 : (m : Int) < (N : Int) := by omega
    have hi0 : (0 : Int) ≤ (m : Int) := by omega
    have HV := Lib.hid hV
    have HU := Lib.hid hu
    have HST := Lib.hid (And.intro harc (And.intro hto (And.intro hN hq)))
    have HIH := Lib.hid ih
    clear hV hu harc hto ih hs hA hI hgO hi hN hq
    go_enter Tryd.func46, Tryd.ntmps46
    go_wp2_with fail
    go_loopw [16] (fun x16 wr => ∃ (j k : Nat), x16 = .int .i64 j ∧ j ≤ q ∧ Hid (arcsV (visitF n S) k (A.drop j) = some m) ∧ Hid (Vis M SB VB NB SR B (.slice (some ⟨g, off, none⟩) N cp) S wr k) ∧ Hid (Turn (fun x => x = NB ∨ x = SR) w wr)) (fun x16 _ => q - (intOf x16).toNat)
    case atStart =>
      have h1 := HV.out
      rw [HST.out.2.2.1] at h1
      exact ⟨0, nx, rfl, Nat.zero_le _, Lib.hid HST.out.1, Lib.hid h1, Lib.hid (Turn.refl _ _)⟩
    case round =>
      clear HV
      obtain ⟨j, k, rfl, hj, HAV, HVI, HTU⟩ := hrel
      by_cases hlt : (j : Int) < (q : Int)
      · obtain ⟨y, hy⟩ : ∃ y, A[j]? = some y := ⟨_, List.getElem?_eq_getElem (by have := HST.out.2.2.2; omega)⟩
        have hdr : A.drop j = y :: A.drop (j + 1) := by
          obtain ⟨h1, h2⟩ := List.getElem?_eq_some_iff.1 hy
          rw [List.drop_eq_getElem_cons h1, h2]
        have hav := HAV.out
        rw [hdr] at hav
        unfold arcsV at hav
        have hym := List.mem_of_getElem? hy
        obtain ⟨a1, a2⟩ := HST.out.2.1 y hym
        have hVr := HVI.out
        have hTr := HTU.out
        obtain ⟨ga, offa, ea, hga, hgaO, hca⟩ := HU.out.at_ hy
        subst ea
        obtain ⟨la, ou, tt⟩ := y
        dsimp only at hav a1 a2
        obtain ⟨t, rfl⟩ : ∃ t : Nat, tt = (t : Int) := ⟨tt.toNat, by omega⟩
        rw [show ((t : Nat) : Int).toNat = t by omega] at hav a2
        have f0 : wr.cell? ⟨ga, offa + j * 3, none⟩ = some (.int .i32 la) := (hTr.cell hga hgaO _).trans (hca 0 (by show 0 < 3; omega))
        have f1 : wr.cell? ⟨ga, offa + j * 3 + 1, none⟩ = some (.int .i64 ou) := (hTr.cell hga hgaO _).trans (hca 1 (by show 1 < 3; omega))
        have f2 : wr.cell? ⟨ga, offa + j * 3 + 2, none⟩ = some (.int .i64 t) := (hTr.cell hga hgaO _).trans (hca 2 (by show 2 < 3; omega))
        have hf := three_cells f0 f1 f2
        obtain ⟨K2, hK2⟩ : ∃ K2, wr.heap.size = K2 := ⟨_, rfl⟩
        obtain ⟨W5, hW5⟩ : ∃ W5, wr.alloc (.cells #[.int .i32 la, .int .i64 ou, .int .i64 t] 63) = W5 := ⟨_, rfl⟩
        have hb5 : Below wr.heap.size wr W5 := by rw [← hW5]; exact (Below.refl _ _).alloc (Nat.le_refl _) _
        have bK2 : Blk W5 K2 63 #[.int .i32 la, .int .i64 ou, .int .i64 t] := by rw [← hW5, ← hK2]; exact Blk.alloc_new _ _ _
        have hV5 := hVr.below hb5
        have hN := HST.out.2.2.1
        have y2 : W5.cell? ⟨K2, 2, none⟩ = some (.int .i64 t) := (Blk.cell bK2 2).trans rfl
        have v1 : W5.cell? ⟨SB, 0, none⟩ = some (.slice (some ⟨SR, 0, none⟩) N N) := (Blk.cell hV5.sb 0).trans (by rw [hN]; rfl)
        have v2 : W5.cell? ⟨SR, t, none⟩ = some (.bool (decide (t < k))) := (Blk.cell hV5.sr t).trans (seenA_at (by omega))
        have v3 : W5.cell? ⟨VB, 0, none⟩ = some (.func (.func 46) #[] #[.pointer (some ⟨M, 0, none⟩), .pointer (some ⟨SB, 0, none⟩), .pointer (some ⟨VB, 0, none⟩), .pointer (some ⟨NB, 0, none⟩)]) := (Blk.cell hV5.vb 0).trans rfl
        have htN : (t : Int) < (N : Int) := by omega
        have ht0 : (0 : Int) ≤ (t : Int) := by omega
        have hj0 : (0 : Int) ≤ (j : Int) := by omega
        have HV5 := Lib.hid hV5
        have hT5 : Turn (fun x => x = NB ∨ x = SR) w W5 := hTr.trans (Turn.of_below (O := fun x => x = NB ∨ x = SR) hb5) (fun _ _ h => h)
        have HT5 := Lib.hid hT5
        have HB5 := Lib.hid hb5
        clear hca hdr hy hym hVr hTr hb5 bK2 hV5 hN hT5 HVI HTU HAV
        by_cases htk : t < k
        · rw [decide_eq_true htk] at v2
          rw [if_pos htk] at hav
          have HAV2 := Lib.hid hav
          clear hav
          go_wp2_with fail
          exact ⟨⟨j + 1, k, rfl, by omega, HAV2, HV5, HT5⟩, by simp only [intOf]; omega⟩
        · rw [decide_eq_false htk] at v2
          rw [if_neg htk] at hav
          cases hvv : visitF n S k t with
          | none => rw [hvv] at hav; cases hav
          | some k1 =>
            rw [hvv] at hav
            have hav : arcsV (visitF n S) k1 (A.drop (j + 1)) = some m := hav
            have HC := Lib.hid (HIH.out k t k1 W5 hvv (by omega) HV5.out)
            have HAV2 := Lib.hid hav
            clear hav hvv
            go_wp2_with fail
            refine HC.out.mono ?_
            rintro e w6 ⟨rfl, hV6, hT6⟩
            have HV6 := Lib.hid hV6
            have hT6' : Turn (fun x => x = NB ∨ x = SR) w w6 := HT5.out.trans hT6 (fun _ _ h => h)
            have HT6 := Lib.hid hT6'
            clear hV6 hT6 hT6' HC v1 v2 v3 y2 hf f0 f1 f2
            go_wp2_with fail
            exact ⟨⟨j + 1, k1, rfl, by omega, HAV2, HV6, HT6⟩, by simp only [intOf]; omega⟩
      · have hje : j = q := by omega
        subst hje
        have hav := HAV.out
        rw [List.drop_eq_nil_of_le (by have := HST.out.2.2.2; omega)] at hav
        obtain rfl : k = m := by simpa [arcsV] using hav
        have hV := HVI.out
        have hN := HST.out.2.2.1
        obtain ⟨n1, n2, n3, n4, n5, n6, n7⟩ := hV.ne
        have v1 : wr.cell? ⟨SB, 0, none⟩ = some (.slice (some ⟨SR, 0, none⟩) N N) := (Blk.cell hV.sb 0).trans (by rw [hN]; rfl)
        have v2 : wr.cell? ⟨SR, k, none⟩ = some (.bool (decide (k < k))) := (Blk.cell hV.sr k).trans (seenA_at (by omega))
        have v2f := Blk.free hV.sr k
        obtain ⟨W8, hW8⟩ : ∃ W8, wr.setCell ⟨SR, k, none⟩ (.bool true) = W8 := ⟨_, rfl⟩
        have bN8 : Blk W8 NB 3 #[.int .i64 k] := by rw [← hW8]; exact hV.nb.other (a := ⟨SR, k, none⟩) (fun e => n7 e.symm) _
        have x1 : W8.cell? ⟨NB, 0, none⟩ = some (.int .i64 k) := (Blk.cell bN8 0).trans rfl
        have x1f := Blk.free bN8 0
        obtain ⟨W9, hW9⟩ : ∃ W9, W8.setCell ⟨NB, 0, none⟩ (.int .i64 ((k : Int) + 1)) = W9 := ⟨_, rfl⟩
        have bN9 : Blk W9 NB 3 #[.int .i64 ((k : Int) + 1)] := by rw [← hW9]; exact bN8.set 0 _
        have x2 : W9.cell? ⟨NB, 0, none⟩ = some (.int .i64 ((k : Int) + 1)) := (Blk.cell bN9 0).trans rfl
        have bS9 : Blk W9 SR 4 (seenA S.length (k + 1)) := by
          rw [← hW9, ← hW8, ← seenA_set (by omega)]
          exact (hV.sr.set k _).other (a := ⟨NB, 0, none⟩) n7 _
        have hT9 : Turn (fun x => x = NB ∨ x = SR) wr W9 := by
          rw [← hW9, ← hW8]
          exact ⟨by simp [World.setCell], rfl, rfl, rfl, fun x hx hn => by
            rw [Below.heap_setCell _ _ _ _ (fun e => hn (.inl e)), Below.heap_setCell _ _ _ _ (fun e => hn (.inr e))]⟩
        have hV9 : Vis M SB VB NB SR B (.slice (some ⟨g, off, none⟩) N cp) S W9 (k + 1) :=
          ⟨hT9.blk hV.mb (by rintro (h | h); exact n1 h; exact n2 h), hV.st.turn hT9 (fun _ _ h => h), hT9.blk hV.sb (by rintro (h | h); exact n3 h; exact n4 h), bS9, hT9.blk hV.vb (by rintro (h | h); exact n5 h; exact n6 h), bN9, hV.ne⟩
        have HFIN := Lib.hid (And.intro hV9 (HTU.out.trans hT9 (fun _ _ h => h)))
        clear hav hV n1 n2 n3 n4 n5 n6 n7 bN8 bN9 bS9 hT9 hV9 hN HVI HTU HAV
        go_wp2_with fail
        go_ret
        have hN := HST.out.2.2.1
        unfold VisEnd
        rw [hN]
        exact ⟨rfl, HFIN.out.1, HFIN.out.2⟩
end Go.Proofs.YtkibkbbjpgomlaaDoor.F
