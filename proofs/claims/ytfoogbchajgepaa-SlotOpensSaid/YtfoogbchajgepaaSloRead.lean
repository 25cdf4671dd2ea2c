/-
  The walk of a slot's read.
-/
import Derived.Test.YtfoogbchajgepaaSloTake
import Derived.Deep.RegionHeld3
namespace Go.Proofs.Ytfoogbchajgepaa.S
open Go.RowKit
open Aid K
set_option linter.unusedSimpArgs false
set_option linter.unusedVariables false

theorem wf_u64 {x : Int} (h0 : 0 ≤ x) (h1 : x ≤ 1000000) : (Lit.int .u64 x).wf = true := by
  simp [Lit.wf, IntKind.min, IntKind.max, IntKind.signed, IntKind.bits]; omega
theorem wf_i64 {x : Int} (h0 : 0 ≤ x) (h1 : x ≤ 1000000) : (Lit.int .i64 x).wf = true := by
  simp [Lit.wf, IntKind.min, IntKind.max, IntKind.signed, IntKind.bits]; omega
/-- the bytes that a sector has now -/
def lastI (st : DSt) (a n : Int) : List Int := match st.F a n with
  | none => []
  | some s => bytesI (s.1.getLastD ByteArray.empty)
theorem bytesI_by (s : ByteArray) : By (bytesI s) := by
  intro x hx
  obtain ⟨b, _, rfl⟩ := List.mem_map.1 hx
  have := b.toNat_lt
  omega
theorem lastI_by (st : DSt) (a n : Int) : By (lastI st a n) := by
  unfold lastI
  split
  · intro x hx; cases hx
  · exact bytesI_by _
/-- a slice is no longer than its room -/
def CapOk : Value → Prop
  | .slice _ n c => n ≤ c
  | _ => True
theorem cap_of {w : World} {k : IntKind} {v : Value} {l : List Int} (h : Ints w k v l) (hc : ∀ b o n c, v = .slice (some ⟨b, o, none⟩) n c → n ≤ c) : CapOk v := by
  obtain ⟨_, ⟨rfl, rfl | ⟨a, c, rfl⟩⟩ | ⟨b, o, c, rfl, _⟩⟩ := h
  · exact Nat.le_refl 0
  · exact Nat.zero_le _
  · exact hc _ _ _ _ rfl
theorem disk_read (O : Nat → Prop) (p : Nat) (st : DSt) (area n : Int) (w : World) (h : DiskIs O w p st) (ha : (Lit.int .u64 area).wf = true) (hn : (Lit.int .i64 n).wf = true) (h64 : (lastI st area n).length ≤ 1000) :
    Calls Try.prog 13 #[.pointer (some ⟨p, 0, none⟩), .int .u64 area, .int .i64 n] w fun e w' => ∃ v', e = .returned (.tuple #[v', .bool (st.F area n).isSome]) ∧ NewInts w.heap.size w' v' (lastI st area n) ∧ CapOk v' ∧ Below w.heap.size w w' := by
  cases hF : st.F area n with
  | none =>
    have hl : lastI st area n = [] := by unfold lastI; rw [hF]
    rw [hl]
    refine (read_none O p st area n w h ha hn hF).mono ?_
    rintro e w' ⟨rfl, hb⟩
    exact ⟨_, rfl, ⟨Ints.nil _ _, fun b o n c e => by simp at e⟩, Nat.le_refl 0, hb⟩
  | some s =>
    obtain ⟨L, sb⟩ := s
    have hl : lastI st area n = bytesI (L.getLastD ByteArray.empty) := by unfold lastI; rw [hF]
    rw [hl] at h64 ⊢
    have hLn : L ≠ [] := by
      obtain ⟨m, G, hD⟩ := h
      cases hg : G area with
      | none => have := (hD.empty area hg).1 n; rw [hF] at this; cases this
      | some g =>
        obtain ⟨_, _, S, _, hf⟩ := hD.inner area g hg
        obtain ⟨_, _, _, h3⟩ := (hf n).2 _ hF
        exact h3
    have hgl : L.getLastD ByteArray.empty = L.getLast hLn := by rw [List.getLastD_eq_getLast?, List.getLast?_eq_some_getLast hLn]; rfl
    rw [hgl] at h64 ⊢
    refine (read_there O p st area n L sb w h ha hn hF hLn (by simpa [bytesI] using h64)).mono ?_
    rintro e w' ⟨⟨v', rfl, hI, hf⟩, hb⟩
    exact ⟨v', rfl, ⟨hI, fun b o n c e _ => (hf b o n c e).1⟩, cap_of hI (fun b o n c e => (hf b o n c e).2), hb⟩
/-- what a sector's bytes say -/
def saysF (l : List Int) (i : Nat) : Nat × List Int :=
  if l.length < 64 ∨ 48 < l.getD 8 0 then (0, [])
  else if numOf l % 2 ≠ i ∨ l ≠ secL (numOf l) (valOf l) then (0, []) else (numOf l, valOf l)
theorem undig_take (l : List Int) (k : Nat) (hk : k < 8) (h : 8 ≤ l.length) : undig ((l.take 8).drop k) = (l.getD k 0).toNat + 256 * undig ((l.take 8).drop (k + 1)) := by
  rw [List.drop_eq_getElem_cons (by simp; omega)]
  simp only [undig, List.getElem_take]
  rw [List.getD_eq_getElem?_getD, List.getElem?_eq_getElem (by omega)]
  rfl
theorem undig_lt : ∀ {l : List Int}, By l → undig l < 256 ^ l.length
  | [], _ => by simp [undig]
  | x :: l, h => by
    have h1 := undig_lt (l := l) (fun y hy => h y (by simp [hy]))
    have h2 := h x (by simp)
    simp only [undig, List.length_cons, Nat.pow_succ]
    omega

set_option maxRecDepth 100000 in
set_option maxHeartbeats 4000000 in
theorem sread_any (O : Nat → Prop) (p s : Nat) (st : DSt) (area : Int) (vv : Value) (num : Int) (i : Nat) (w : World) (h : DiskIs O w p st) (hS : Blk w s 60 #[.pointer (some ⟨p, 0, none⟩), .int .u64 area, vv, .int .u64 num]) (ha : (Lit.int .u64 area).wf = true) (hi : i < 2)
    (h64 : lastI st area i = [] ∨ (lastI st area i).length = 64) :
    Calls Try.prog 21 #[.pointer (some ⟨s, 0, none⟩), .int .i64 (i : Nat)] w fun e w' => ∃ v', e = .returned (.tuple #[.int .u64 ((saysF (lastI st area i) i).1 : Nat), v']) ∧ NewInts w.heap.size w' v' (saysF (lastI st area i) i).2 ∧ Below w.heap.size w w' := by
  have hread := disk_read O p st area i w.drew (h.below ((Below.refl _ _).drew)) ha (wf_i64 (by omega) (by omega)) (by rcases h64 with h | h; rw [h]; decide; omega)
  have hby := lastI_by st area i
  obtain ⟨l, hl⟩ : ∃ l, lastI st area i = l := ⟨_, rfl⟩
  rw [hl] at hread h64 hby ⊢
  obtain ⟨is, his⟩ : ∃ is, (st.F area i).isSome = is := ⟨_, rfl⟩
  rw [his] at hread
  have hc0 : w.cell? ⟨s, 0, none⟩ = some (.pointer (some ⟨p, 0, none⟩)) := by rw [Blk.cell hS]; rfl
  have hc1 : w.cell? ⟨s, 1, none⟩ = some (.int .u64 area) := by rw [Blk.cell hS]; rfl
  have hlt := Blk.lt hS
  have hsd : w.drew.heap.size = w.heap.size := rfl
  rw [hsd] at hread
  clear hl his
  obtain ⟨F, hFs⟩ : ∃ F, saysF l i = F := ⟨_, rfl⟩
  rw [hFs]
  go_enter Try.func21, Try.ntmps21
  go_wp2_with fail
  go_region_held3 (fun w' => w'.cell? ⟨s, 0, none⟩ = some (.pointer (some ⟨p, 0, none⟩)) ∧ w'.cell? ⟨s, 1, none⟩ = some (.int .u64 area)) (first | go_keep) (first
    | (go_at_call 13; refine hread.mono ?_; rintro e w1 ⟨v1, rfl, hI1, hcap1, hb1⟩; have k0 : w1.cell? ⟨s, 0, none⟩ = some (.pointer (some ⟨p, 0, none⟩)) := (hb1.cell (p := ⟨s, 0, none⟩) hlt).trans hc0; have k1 : w1.cell? ⟨s, 1, none⟩ = some (.int .u64 area) := (hb1.cell (p := ⟨s, 1, none⟩) hlt).trans hc1))
  clear hread hc0 hc1 h k0 k1
  obtain ⟨hI, hfresh⟩ := hI1
  have hwd : Below w.heap.size w w1 := ((Below.refl w.heap.size w).drew).trans hb1
  rcases h64 with rfl | h64
  · obtain ⟨a, c, rfl, _, _⟩ := ints_slice hI
    have hsay : saysF [] i = (0, []) := by unfold saysF; rw [if_pos (.inl (by decide))]
    rw [hsay] at hFs
    subst hFs
    go_wp2_with fail
    go_ret2
    exact ⟨_, rfl, ⟨Ints.nil _ _, fun b o n c e => by simp at e⟩, hwd⟩
  · obtain ⟨a, c, rfl, _, hcell⟩ := ints_slice hI
    have hcc : l.length ≤ c := hcap1
    rw [h64] at hcell hcc
    obtain ⟨b, o, rfl, hbw, hx8⟩ := hcell 8 (by omega)
    have hcells : ∀ j : Nat, j < 64 → w1.cell? ⟨b, o + j, none⟩ = some (.int .u8 (l.getD j 0)) := fun j hj => by
      obtain ⟨b', o', e, _, hx⟩ := hcell j hj
      simp at e
      rw [e.1, e.2]; exact hx
    have hbB : w.heap.size ≤ b := hfresh b o _ c rfl (by omega)
    obtain ⟨B8, hB8⟩ : ∃ x : Nat, l.getD 8 0 = (x : Int) := ⟨(l.getD 8 0).toNat, by
      have := hby (l.getD 8 0) (by rw [List.getD_eq_getElem?_getD, List.getElem?_eq_getElem (by omega)]; exact List.getElem_mem _)
      omega⟩
    rw [hB8] at hx8
    clear hcell
    have HCS := Lib.hid hcells
    rw [h64]
    rw [h64] at hI hfresh
    have H64 := Lib.hid h64
    have HB8 := Lib.hid hB8
    clear hcells h64 hB8
    by_cases h48 : (48 : Int) < (B8 : Int)
    · have hsay : saysF l i = (0, []) := by unfold saysF; rw [if_pos (.inr (by rw [HB8.out]; exact h48))]
      rw [hsay] at hFs
      subst hFs
      go_wp2_with fail
      go_ret2
      exact ⟨_, rfl, ⟨Ints.nil _ _, fun b o n c e => by simp at e⟩, hwd⟩
    · go_wp2_with fail
      go_loopw [8, 9] (fun x8 x9 wr => ∃ k : Nat, k ≤ 8 ∧ x9 = .int .i64 ((k : Int) - 1) ∧ x8 = .int .u64 (undig ((l.take 8).drop k) : Nat) ∧ wr = w1) (fun x8 x9 _ => (intOf x9 + 1).toNat)
      case atStart => exact ⟨8, by omega, rfl, by rw [List.drop_eq_nil_of_le (by rw [List.length_take]; exact Nat.min_le_left _ _)]; rfl, rfl⟩
      case round =>
        obtain ⟨k, hk, rfl, rfl, rfl⟩ := hrel
        by_cases hk0 : k = 0
        · subst hk0
          have hnum : undig ((l.take 8).drop 0) = numOf l := rfl
          have hN64 : numOf l < 18446744073709551616 := by
            have := undig_lt (l := l.take 8) (fun y hy => hby y (List.mem_of_mem_take hy))
            rw [List.length_take, H64.out] at this
            exact this
          have hVl : (valOf l).length = B8 := by
            unfold valOf
            rw [HB8.out, List.length_take, List.length_drop, H64.out]
            simp; omega
          have hVI : Ints wr .u8 (.slice (some ⟨b, o + 9, none⟩) B8 (c - 9)) (valOf l) := by
            refine ⟨by omega, .inr ⟨b, o + 9, c - 9, by rw [hVl], hbw, fun j hj => ?_⟩⟩
            rw [hVl] at hj
            rw [show o + 9 + j = o + (9 + j) by omega, HCS.out (9 + j) (by omega)]
            unfold valOf
            rw [HB8.out, List.getD_eq_getElem?_getD, List.getD_eq_getElem?_getD, List.getElem?_take_of_lt (by simpa using hj), List.getElem?_drop]
          have hVb : By (valOf l) := fun y hy => hby y (List.mem_of_mem_drop (List.mem_of_mem_take hy))
          have hsec := secL_len (n := numOf l) (v := valOf l) (by omega)
          rw [hnum]
          obtain ⟨N, hN⟩ : ∃ N, numOf l = N := ⟨_, rfl⟩
          obtain ⟨V, hV⟩ : ∃ V, valOf l = V := ⟨_, rfl⟩
          have hFs2 : F = if N % 2 ≠ i ∨ l ≠ secL N V then (0, []) else (N, V) := by
            rw [← hFs]
            unfold saysF
            rw [if_neg (by rintro (h | h); (rw [H64.out] at h; omega); (rw [HB8.out] at h; omega)), hN, hV]
          rw [hN] at hN64 hsec ⊢
          rw [hV] at hVl hVI hVb hsec
          clear hN hV hnum hFs
          obtain ⟨iw, hiw, hzw⟩ := info_whole
          rw [← z64_arr] at hzw
          go_wp2_with fail
          refine (sector_any N _ V wr hN64 hVI hVb (by omega)).mono ?_
          rintro e w2 ⟨rfl, hb2⟩
          have hiw2 : IntKind.u64.wrap (i : Int) = (i : Int) := by rw [IntKind.wrap_u64]; omega
          by_cases hp : (N : Int) % 2 = (i : Int)
          · have hpb : ((N : Int) % 2 == (i : Int)) = true := by rw [beq_iff_eq]; exact hp
            go_wp2_with (first
              | (refine wpList_allocN _ (by rfl) _ rfl iw hiw _ hzw ?_; intro w3 hB3 hb3 hs3)
              | (refine wpList_storeN _ (by rfl) _ _ _ rfl rfl w2.heap.size rfl _ _ _ hB3 rfl (size_arr _ hsec) (by rw [arr8_size, arr8_size, hsec]; rfl) (arr8_all _) ?_; intro w4 hB4 hb4 hs4 _))
            have hb24 : Below wr.heap.size wr w4 := (hb2.trans (hb3.mono hb2.size)).trans (hb4.mono hb2.size)
            have hI4 : Ints w4 .u8 (.slice (some ⟨b, o, none⟩) 64 c) l := by
              refine ⟨by rw [H64.out]; decide, .inr ⟨b, o, c, by rw [H64.out], by have := hb24.size; omega, fun j hj => ?_⟩⟩
              rw [H64.out] at hj
              exact (hb24.cell (p := ⟨b, o + j, none⟩) hbw).trans (HCS.out j hj)
            have hI5 := ints_of_arr (o := 0) (n := 64) (c := 64) hB4 (by rw [hsec]; decide) (by rw [hsec]; decide)
            rw [List.drop_zero, List.take_of_length_le (by rw [hsec]; decide)] at hI5
            refine (equal_any _ _ l (secL N V) w4 hI4 hI5).mono ?_
            rintro e w5 ⟨rfl, hb5⟩
            have hw5 : Below w.heap.size w w5 := hwd.trans ((hb24.trans (hb5.mono hb24.size)).mono hwd.size)
            by_cases hq : l = secL N V
            · have hF3 : F = (N, V) := by rw [hFs2, if_neg (by rintro (h | h); omega; exact h hq)]
              subst hF3
              rw [decide_eq_true hq]
              go_wp2_with fail
              go_ret2
              refine ⟨_, rfl, ⟨hVI.below (hb24.trans (hb5.mono hb24.size)), fun b' o' n' c' e hn => ?_⟩, hw5⟩
              simp at e
              rw [← e.1.1]; exact hbB
            · have hF3 : F = (0, []) := by rw [hFs2, if_pos (.inr hq)]
              subst hF3
              rw [decide_eq_false hq]
              go_wp2_with fail
              go_ret2
              exact ⟨_, rfl, ⟨Ints.nil _ _, fun b o n c e => by simp at e⟩, hw5⟩
          have hpb : ((N : Int) % 2 == (i : Int)) = false := by rw [beq_eq_false_iff_ne]; exact hp
          have hF3 : F = (0, []) := by rw [hFs2, if_pos (.inl (by omega))]
          subst hF3
          go_wp2_with (first
            | (refine wpList_allocN _ (by rfl) _ rfl iw hiw _ hzw ?_; intro w3 hB3 hb3 hs3)
            | (refine wpList_storeN _ (by rfl) _ _ _ rfl rfl w2.heap.size rfl _ _ _ hB3 rfl (size_arr _ hsec) (by rw [arr8_size, arr8_size, hsec]; rfl) (arr8_all _) ?_; intro w4 hB4 hb4 hs4 _))
          go_ret2
          have hb24 : Below wr.heap.size wr w4 := (hb2.trans (hb3.mono hb2.size)).trans (hb4.mono hb2.size)
          exact ⟨_, rfl, ⟨Ints.nil _ _, fun b o n c e => by simp at e⟩, hwd.trans (hb24.mono hwd.size)⟩
        · obtain ⟨j, rfl⟩ : ∃ j, k = j + 1 := ⟨k - 1, by omega⟩
          have hj : ((j + 1 : Nat) : Int) - 1 = (j : Int) := by omega
          rw [hj]
          have hcj := HCS.out j (by omega)
          have hun := undig_take l j (by omega) (by rw [H64.out]; decide)
          have hlt8 := undig_lt (l := (l.take 8).drop (j + 1)) (fun y hy => hby y (List.mem_of_mem_take (List.mem_of_mem_drop hy)))
          obtain ⟨x, hx⟩ : ∃ x : Nat, l.getD j 0 = (x : Int) := ⟨(l.getD j 0).toNat, by
            have := hby (l.getD j 0) (by rw [List.getD_eq_getElem?_getD, List.getElem?_eq_getElem (by rw [H64.out]; omega)]; exact List.getElem_mem _)
            omega⟩
          have hx255 : x < 256 := by
            have := hby (l.getD j 0) (by rw [List.getD_eq_getElem?_getD, List.getElem?_eq_getElem (by rw [H64.out]; omega)]; exact List.getElem_mem _)
            omega
          rw [hx] at hcj hun
          obtain ⟨u, hu⟩ : ∃ u, undig ((l.take 8).drop (j + 1)) = u := ⟨_, rfl⟩
          rw [hu] at hun hlt8 ⊢
          have hu56 : u < 72057594037927936 := by
            refine Nat.lt_of_lt_of_le hlt8 ?_
            have : ((l.take 8).drop (j + 1)).length ≤ 7 := by simp; omega
            exact Nat.le_trans (Nat.pow_le_pow_right (by decide) this) (by decide)
          have hxw : IntKind.u64.wrap (x : Int) = (x : Int) := by rw [IntKind.wrap_u64]; omega
          have HUN := Lib.hid hun
          clear hun hu hlt8 hx
          go_wp2_with fail
          refine ⟨⟨j, by omega, rfl, ?_, trivial⟩, ?_⟩
          · rw [HUN.out]
            congr 1
            have h1 := u64_or_nat (u * 256) x (by omega) (by omega)
            rw [nat_join 8 (u * 256) x (by omega) (by omega)] at h1
            have h2 : ((u : Int) * 256) = ((u * 256 : Nat) : Int) := by omega
            rw [h2, h1]
            have : (x : Int).toNat = x := rfl
            rw [this]
            congr 1; omega
          · simp [intOf]
end Go.Proofs.Ytfoogbchajgepaa.S
