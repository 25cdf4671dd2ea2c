/-
  Bytes read off a reader.
-/
import Derived.Test.YtcpkpljeimbdiaaWalRd
namespace Go.Proofs.Ytcpkpljeimbdiaa.W
open Go.RowKit
open Aid K
set_option linter.unusedSimpArgs false
set_option linter.unusedVariables false

def By8 (l : List Int) : Prop := ∀ x ∈ l, 0 ≤ x ∧ x ≤ 255
/-- bytes read off: them, what is left, the error -/
def bytesF (most : Int) (l : List Int) (e : Int) : Option (List Int) × List Int × Int :=
  let u := uintF most l e
  if u.2.2 ≠ 0 then (none, u.2.1, u.2.2) else
  if (u.2.1.length : Int) < u.1 then (none, l, 20) else (some (u.2.1.take u.1.toNat), u.2.1.drop u.1.toNat, 0)
theorem uintF_range (most : Int) (l : List Int) (e : Int) (hm : 0 ≤ most) : 0 ≤ (uintF most l e).1 ∧ (uintF most l e).1 ≤ most := by
  unfold uintF
  split
  · exact ⟨Int.le_refl _, hm⟩
  · dsimp only
    split
    · exact ⟨Int.le_refl _, hm⟩
    · split
      · exact ⟨Int.le_refl _, hm⟩
      · dsimp only; omega
theorem uintF_sub (most : Int) (l : List Int) (e : Int) : ∃ k, (uintF most l e).2.1 = l.drop k := by
  unfold uintF
  split
  · exact ⟨0, rfl⟩
  · dsimp only
    split
    · exact ⟨0, rfl⟩
    · split
      · exact ⟨0, rfl⟩
      · exact ⟨_, rfl⟩
theorem own_keep {O : Nat → Prop} {w w' : World} {base : Nat} {v : Value} {l : List Int} (h : Own w base v l) (hK : Keeps O w w') (hO : ∀ g, base ≤ g → ¬ O g) : Own w' base v l := by
  obtain ⟨h1, h2⟩ := h
  refine ⟨h1, ?_⟩
  rcases h2 with h2 | ⟨g, cap, cur, rfl, hb, hg, rest⟩
  · exact .inl h2
  · exact .inr ⟨g, cap, cur, rfl, hb, (hK.block g (Array.getElem?_eq_some_iff.1 hg).1 (hO g hb)).trans hg, rest⟩
theorem own_base {w : World} {base base' : Nat} {v : Value} {l : List Int} (h : Own w base v l) (hb : base' ≤ base) : Own w base' v l := by
  obtain ⟨h1, h2⟩ := h
  refine ⟨h1, ?_⟩
  rcases h2 with h2 | ⟨g, cap, cur, rfl, hb2, hg, rest⟩
  · exact .inl h2
  · exact .inr ⟨g, cap, cur, rfl, by omega, hg, rest⟩
def BytesEnd (b0 p : Nat) (r : Option (List Int) × List Int × Int) (w : World) (e : Ending) (w' : World) : Prop :=
  ∃ v, e = .returned v ∧ (r.1 = none → v = .slice none 0 0) ∧ (∀ x, r.1 = some x → Own w' w.heap.size v x) ∧ RdIs b0 w' p r.2.1 r.2.2 ∧ Keeps (fun k => k = p) w w'
set_option maxRecDepth 100000 in
set_option maxHeartbeats 2000000 in
theorem bytes_any (b0 p : Nat) (l : List Int) (x : Int) (most : Nat) (w : World) (h : RdIs b0 w p l x) (hB : By8 l) (hm : most ≤ 1000000) :
    Calls Try.prog 58 #[.pointer (some ⟨p, 0, none⟩), .int .i64 most] w (BytesEnd b0 p (bytesF most l x) w) := by
  have hu := uint_any b0 p l x most w h hB (by omega)
  have hr := uintF_range most l x (by omega)
  obtain ⟨hb0, v, hBl, hI, hC, hn⟩ := h
  obtain ⟨c0, c1, c2, c3⟩ := rd_cells hBl
  obtain ⟨r, hre⟩ : ∃ r, bytesF most l x = r := ⟨_, rfl⟩
  rw [hre]
  unfold bytesF at hre
  obtain ⟨u, hue⟩ : ∃ u, uintF most l x = u := ⟨_, rfl⟩
  rw [hue] at hu hr hre
  obtain ⟨n, l2, x2⟩ := u
  dsimp only at hu hr hre
  have HRE := Lib.hid hre
  clear hre
  obtain ⟨va, vc, rfl, hz⟩ := ints_ends hI
  have HI := Lib.hid hI
  have HB := Lib.hid hBl
  have HC := Lib.hid hC
  have HN := Lib.hid hn
  have HU := Lib.hid hu
  have hw1 : IntKind.u64.wrap (most : Int) = (most : Int) := by rw [IntKind.wrap_u64]; omega
  clear hI hBl hC hn hu hz hue
  go_enter Try.func58, Try.ntmps58
  go_wp2_with fail
  refine HU.out.mono ?_
  rintro e w1 ⟨rfl, ⟨_, v2, hB2, hI2, hC2, hn2⟩, hK⟩
  obtain ⟨va2, vc2, rfl, hz2⟩ := ints_ends hI2
  obtain ⟨d0, d1, d2, d3⟩ := rd_cells hB2
  have HI2 := Lib.hid hI2
  have HB2 := Lib.hid hB2
  have HC2 := Lib.hid hC2
  have HN2 := Lib.hid hn2
  have HK := Lib.hid hK
  clear hI2 hB2 hC2 hn2 hK hz2
  by_cases hx : x2 = 0
  · subst hx
    by_cases hlt : (l2.length : Int) < n
    · have hre := HRE.out
      rw [if_neg (by simp), if_pos hlt] at hre
      subst hre
      clear HRE
      have hll := HI2.out.1
      have hw2 : IntKind.u64.wrap (l2.length : Int) = (l2.length : Int) := by rw [IntKind.wrap_u64]; omega
      go_wp2_with fail
      go_ret
      have hI1 := ints_kept HI.out HK.out (fun b o n c e h1 => by rw [HN.out b o n c e h1]; exact hb0)
      have h0 := rd_set0 hb0 HB2.out hI1 HC.out HN.out
      have hI0 := ints_kept hI1 h0.2 (fun b o n c e h1 => by rw [HN.out b o n c e h1]; exact hb0)
      have h1 := rd_set1 hb0 (e' := 20) (HB2.out.set 0 (.slice va l.length vc)) hI0 HC.out HN.out
      exact ⟨_, rfl, fun _ => rfl, fun _ e => (nomatch e), h1.1, (HK.out.trans h0.2 (fun x hx => .inl hx)).trans h1.2 (fun x hx => .inl hx)⟩
    · have hre := HRE.out
      rw [if_neg (by simp), if_neg hlt] at hre
      have HRE := Lib.hid hre
      clear hre
      obtain ⟨n, rfl⟩ := Int.eq_ofNat_of_zero_le hr.1
      have hll := HI2.out.1
      have hw2 : IntKind.u64.wrap (l2.length : Int) = (l2.length : Int) := by rw [IntKind.wrap_u64]; omega
      have hcap : l2.length ≤ vc2 := HC2.out _ _ _ rfl
      have hnl : n ≤ l2.length := by omega
      have hnc : n ≤ vc2 := by omega
      have hpl : p < w1.heap.size := Blk.lt HB2.out
      go_wp2_with fail
      refine (clone_any _ (l2.take n) w1 (ints_take HI2.out hnl)).mono ?_
      rintro e w3 ⟨v3, rfl, hO3, hb3⟩
      have hB3 := HB2.out.below hb3 hpl
      obtain ⟨g0, g1, g2, g3⟩ := rd_cells hB3
      have HB3 := Lib.hid hB3
      have HO3 := Lib.hid hO3
      have HBL := Lib.hid hb3
      obtain ⟨va3, vc3, rfl⟩ := (Ints.own hO3 (by simp; omega)).form
      have htl : (l2.take n).length = n := by rw [List.length_take]; omega
      have hsz := hb3.size
      have hwz := HK.out.size
      clear hB3 hO3 hb3 c1 c2 c3 c0 d0 d1 d2 d3
      have hI3 := Lib.hid (HI2.out.below HBL.out)
      go_wp2_with fail
      · go_ret
        have hvk : vc2 = n := by assumption
        have hre := HRE.out
        rw [Int.toNat_natCast, show l2.drop n = [] from List.drop_eq_nil_of_le (by omega)] at hre
        have hlk : l2.length - n = 0 := by omega
        rw [hlk, ← hre]
        have h0 := rd_set0 hb0 HB3.out (ints_no (a := va2) (c := 0) (fun _ => rfl)) (fun a n' c' e => by simp at e; omega) (fun b o n' c' e h0 => by simp at e; omega)
        have ho := own_base (own_keep HO3.out h0.2 (fun g hg e => by omega)) hwz
        rw [htl] at ho
        exact ⟨_, rfl, fun e => (nomatch e), fun x e => by cases e; exact ho, h0.1, (HK.out.trans (Keeps.of_below HBL.out) (fun x hx => .inl hx)).trans h0.2 (fun x hx => .inl hx)⟩
      · go_ret
        have hre := HRE.out
        rw [Int.toNat_natCast] at hre
        rw [← hre]
        have h0 := rd_set0 hb0 HB3.out (ints_drop hI3.out hnl) (fun a n' c' e => by simp at e; omega) (drop_ne hI3.out HN2.out)
        have ho := own_base (own_keep HO3.out h0.2 (fun g hg e => by omega)) hwz
        rw [htl] at ho
        exact ⟨_, rfl, fun e => (nomatch e), fun x e => by cases e; exact ho, h0.1, (HK.out.trans (Keeps.of_below HBL.out) (fun x hx => .inl hx)).trans h0.2 (fun x hx => .inl hx)⟩
  · have hre := HRE.out
    rw [if_pos hx] at hre
    subst hre
    clear HRE
    have hx1 : (x2 == 0) = false := by simpa using hx
    have hx3 : (x2 != 0) = true := by simpa using hx
    go_wp2_with fail
    go_ret
    exact ⟨_, rfl, fun _ => rfl, fun _ e => (nomatch e), ⟨hb0, _, HB2.out, HI2.out, HC2.out, HN2.out⟩, HK.out⟩
end Go.Proofs.Ytcpkpljeimbdiaa.W
