/-
  WalSet + WalOps + WalBeg + WalAp + WalCut + WalTr + WalCo + WalLawA + WalDoe + WalInv.
-/
import Derived.Test.YtcpkpljeimbdiaaGreatWalKpZ
namespace Go.Proofs.YtcpkpljeimbdiaaGreat.W
open Go.RowKit
open Aid K
set_option linter.unusedSimpArgs false
set_option linter.unusedVariables false
theorem OpnIs.mono {Q Q' : Nat → Prop} {w : World} {ov : Value} {q : Option Opn} (h : OpnIs Q w ov q) (hQ : ∀ k, Q k → Q' k) : OpnIs Q' w ov q := by
  cases q with
  | none => exact h
  | some q =>
    obtain ⟨o, rv, h1, h2, h3, h4, h5⟩ := h
    exact ⟨o, rv, h1, h2, hQ o h3, h4, fun k hk => hQ k (h5 k hk)⟩
theorem OpnIs.apart {Q : Nat → Prop} {w : World} {ov : Value} {q : Option Opn} {g : Nat} {T : TypeId} {cs : Array Value} (h : OpnIs Q w ov q) {P : Nat → Prop} {w' : World} (hK : Keeps P w w') (hP : ∀ k, P k → (∃ T cs, Blk w k T cs ∧ T ≠ 86 ∧ T ≠ 5)) : OpnIs Q w' ov q := by
  cases q with
  | none => exact h
  | some q =>
    obtain ⟨o, rv, h1, h2, h3, h4, h5⟩ := h
    refine ⟨o, rv, h1, blk_keep h2 hK (fun hp => ?_), h3, h4.keep hK (fun k hk hp => ?_), h5⟩
    · obtain ⟨T, cs, hb, hT, _⟩ := hP o hp
      exact blk_ne hb h2 hT rfl
    · obtain ⟨T, cs, hb, _, hT⟩ := hP k hp
      exact offrow_ne hb h4 hT k hk rfl
theorem offrow_blk {w : World} {T : TypeId} {size n : Nat} {v : Value} {xs : List Value} (h : OffRow w T size v n xs) : ∀ k, v.ownBlock = some k → ∃ cs, Blk w k T cs := by
  intro k hk
  obtain ⟨_, ⟨rfl, _⟩ | ⟨b, off, cap, cur, rfl, hb, _⟩⟩ := h
  · cases hk
  · cases hk; exact ⟨cur, hb⟩
theorem seg_info : (Tryz.prog.info? 80).map (fun i => (i.zero, i.size, i.bytes)) = some (some (.agg #[.int .u64 0, .int .u64 0]), 2, 16) := by kernel_rfl
theorem lst_info : (Tryz.prog.info? 49).map (fun i => (i.zero, i.size, i.bytes)) = some (some (.slice none 0 0), 1, 24) := by kernel_rfl
theorem WalIn.old_new {O Q : Nat → Prop} {w w3 : World} {g p : Nat} {s : LSt} {ov lv oldv oldv' : Value} {S' : List (Int × Int)} (h : WalIn O Q w g p s ov lv oldv) (hO : ∀ k, O k → k < w.heap.size) (hK : Keeps (fun k => oldv.ownBlock = some k) w w3) (hoff : Segs w3 oldv' S') (hown : ∀ k, oldv'.ownBlock = some k → oldv.ownBlock = some k ∨ w.heap.size ≤ k) :
    WalIn O (fun k => Q k ∨ oldv'.ownBlock = some k) (w3.setCell ⟨g, 4, none⟩ oldv') g p { s with old := S' } ov lv oldv' ∧ Keeps (fun k => Q k) w (w3.setCell ⟨g, 4, none⟩ oldv') := by
  have hb3 := blk_keep h.blk hK (fun hk => offrow_ne h.blk h.segs (by decide) g hk rfl)
  have hb4 : Blk (w3.setCell ⟨g, 4, none⟩ oldv') g 75 (walV ov p s.first lv oldv' s.next s.code) := hb3.set 4 _
  have hK4 : Keeps (fun k => k = g) w3 (w3.setCell ⟨g, 4, none⟩ oldv') := set_keeps (Keeps.refl _ _) rfl (StrRow.no_blk hb3 (by decide))
  have hKK : Keeps (fun k => oldv.ownBlock = some k ∨ k = g) w (w3.setCell ⟨g, 4, none⟩ oldv') := (keeps_mono hK (fun k hk => .inl hk)).trans hK4 (fun k hk => .inl (.inr hk))
  have hPQ : ∀ k, (oldv.ownBlock = some k ∨ k = g) → Q k := fun k hk => by
    rcases hk with hk | hk
    · exact h.qs k hk
    · exact hk ▸ h.qg
  have hsz := hKK.size
  have hoff4 : Segs (w3.setCell ⟨g, 4, none⟩ oldv') oldv' S' := OffRow.keep hoff hK4 (fun k hk e => offrow_ne hb3 hoff (by decide) k hk e)
  refine ⟨⟨hb4, .inl h.qg, ?_, ?_, fun k hk => .inl (h.ql k hk), hoff4, fun k hk => .inr hk, fun k hk => ?_, fun k hk ho => ?_⟩, keeps_mono hKK hPQ⟩
  · refine (h.opn.apart (g := g) (T := 75) (cs := #[]) hKK (fun k hk => ?_)).mono (fun k hk => .inl hk)
    rcases hk with hk | hk
    · obtain ⟨cs, hcs⟩ := offrow_blk h.segs k hk
      exact ⟨_, cs, hcs, by decide, by decide⟩
    · exact ⟨_, _, hk ▸ h.blk, by decide, by decide⟩
  · obtain ⟨vs, hr⟩ := h.recs
    refine ⟨vs, hr.keep hKK (fun k hk hp => ?_) (fun k hk => .inr (hPQ k hk)) (fun k hk => ?_)⟩
    · rcases hp with hp | hp
      · exact offrow_ne2 h.segs hr.row (by decide) k hp k hk rfl
      · exact offrow_ne h.blk hr.row (by decide) k hk hp
    · rcases hk with hk | hk | hk
      · exact .inl (.inl hk)
      · exact .inl (.inr hk)
      · rcases hown k hk with h1 | h1
        · exact .inl (.inr (h.qs k h1))
        · exact .inr h1
  · rcases hk with hk | hk
    · have := h.lt k hk; omega
    · exact OffRow.lt hoff4 k hk
  · rcases hk with hk | hk
    · exact h.apart k hk ho
    · rcases hown k hk with h1 | h1
      · exact h.apart k (h.qs k h1) ho
      · have := hO k ho; omega
theorem WalIn.l_new {O Q : Nat → Prop} {w w3 : World} {g p : Nat} {s : LSt} {ov lv lv' oldv : Value} {L' : List (List Int)} {vs' : List Value} (h : WalIn O Q w g p s ov lv oldv) (hO : ∀ k, O k → k < w.heap.size) (hK : Keeps (fun k => lv.ownBlock = some k) w w3) (hlen : vs'.length = L'.length) (hoff : OffRow w3 49 1 lv' vs'.length vs')
    (hown : ∀ k, lv'.ownBlock = some k → lv.ownBlock = some k ∨ w.heap.size ≤ k) (hrec : ∀ (j : Nat) (v : Value) (l : List Int), vs'[j]? = some v → L'[j]? = some l → Ints w .u8 v l ∧ ∀ k, v.ownBlock = some k → ¬ (O k ∨ Q k) ∧ k < w.heap.size) :
    WalIn O (fun k => Q k ∨ lv'.ownBlock = some k) (w3.setCell ⟨g, 3, none⟩ lv') g p { s with L := L' } ov lv' oldv ∧ Keeps (fun k => Q k) w (w3.setCell ⟨g, 3, none⟩ lv') := by
  obtain ⟨vs0, hr0⟩ := h.recs
  have hb3 := blk_keep h.blk hK (fun hk => offrow_ne h.blk hr0.row (by decide) g hk rfl)
  have hb4 : Blk (w3.setCell ⟨g, 3, none⟩ lv') g 75 (walV ov p s.first lv' oldv s.next s.code) := hb3.set 3 _
  have hK4 : Keeps (fun k => k = g) w3 (w3.setCell ⟨g, 3, none⟩ lv') := set_keeps (Keeps.refl _ _) rfl (StrRow.no_blk hb3 (by decide))
  have hKK : Keeps (fun k => lv.ownBlock = some k ∨ k = g) w (w3.setCell ⟨g, 3, none⟩ lv') := (keeps_mono hK (fun k hk => .inl hk)).trans hK4 (fun k hk => .inl (.inr hk))
  have hPQ : ∀ k, (lv.ownBlock = some k ∨ k = g) → Q k := fun k hk => by
    rcases hk with hk | hk
    · exact h.ql k hk
    · exact hk ▸ h.qg
  have hsz := hKK.size
  have hoff4 := hoff.keep hK4 (fun k hk e => offrow_ne hb3 hoff (by decide) k hk e)
  refine ⟨⟨hb4, .inl h.qg, ?_, ⟨vs', hlen, hoff4, fun j v l hv hl => ?_⟩, fun k hk => .inr hk, ?_, fun k hk => .inl (h.qs k hk), fun k hk => ?_, fun k hk ho => ?_⟩, keeps_mono hKK hPQ⟩
  · refine (h.opn.apart (g := g) (T := 75) (cs := #[]) hKK (fun k hk => ?_)).mono (fun k hk => .inl hk)
    rcases hk with hk | hk
    · obtain ⟨cs, hcs⟩ := offrow_blk hr0.row k hk
      exact ⟨_, cs, hcs, by decide, by decide⟩
    · exact ⟨_, _, hk ▸ h.blk, by decide, by decide⟩
  · obtain ⟨h1, h2⟩ := hrec j v l hv hl
    refine ⟨ints_kept2 h1 hKK (fun b hb hp => (h2 b hb).1 (.inr (hPQ b hp))), fun k hk => ⟨fun hq => ?_, by have := (h2 k hk).2; omega⟩⟩
    rcases hq with hq | hq | hq
    · exact (h2 k hk).1 (.inl hq)
    · exact (h2 k hk).1 (.inr hq)
    · rcases hown k hq with h3 | h3
      · exact (h2 k hk).1 (.inr (h.ql k h3))
      · have := (h2 k hk).2; omega
  · refine h.segs.keep hKK (fun k hk hp => ?_)
    rcases hp with hp | hp
    · exact offrow_ne2 hr0.row h.segs (by decide) k hp k hk rfl
    · exact offrow_ne h.blk h.segs (by decide) k hk hp
  · rcases hk with hk | hk
    · have := h.lt k hk; omega
    · exact hoff4.lt k hk
  · rcases hk with hk | hk
    · exact h.apart k hk ho
    · rcases hown k hk with h1 | h1
      · exact h.apart k (h.ql k h1) ho
      · have := hO k ho; omega
theorem WalIn.open_new {O Q : Nat → Prop} {w : World} {g p : Nat} {s : LSt} {ov lv oldv : Value} {n ix : Int} (h : WalIn O Q w g p s ov lv oldv) (hO : ∀ k, O k → k < w.heap.size) :
    WalIn O (fun k => Q k ∨ k = w.heap.size) ((w.alloc (.cells (openV n ix 0 (.slice none 0 0)) 86)).setCell ⟨g, 0, none⟩ (.pointer (some ⟨w.heap.size, 0, none⟩))) g p { s with opn := some ⟨n, ix, 0, []⟩ } (.pointer (some ⟨w.heap.size, 0, none⟩)) lv oldv ∧
    Keeps (fun k => Q k) w ((w.alloc (.cells (openV n ix 0 (.slice none 0 0)) 86)).setCell ⟨g, 0, none⟩ (.pointer (some ⟨w.heap.size, 0, none⟩))) := by
  have hbA : Below w.heap.size w (w.alloc (.cells (openV n ix 0 (.slice none 0 0)) 86)) := (Below.refl _ _).alloc (Nat.le_refl _) _
  have hA := h.below hbA
  have hB : Blk (w.alloc (.cells (openV n ix 0 (.slice none 0 0)) 86)) w.heap.size 86 (openV n ix 0 (.slice none 0 0)) := Blk.alloc_new _ _ _
  obtain ⟨wa, hwa⟩ : ∃ wa, w.alloc (.cells (openV n ix 0 (.slice none 0 0)) 86) = wa := ⟨_, rfl⟩
  rw [hwa] at hA hB hbA ⊢
  have hK : Keeps (fun k => k = g) wa (wa.setCell ⟨g, 0, none⟩ (.pointer (some ⟨w.heap.size, 0, none⟩))) := set_keeps (Keeps.refl _ _) rfl (StrRow.no_blk hA.blk (by decide))
  have hgl := Blk.lt h.blk
  have hB2 := blk_keep hB hK (by omega)
  have hsz := hbA.size
  have hwl := Blk.lt hB
  refine ⟨⟨hA.blk.set 0 _, .inl h.qg, ⟨_, _, rfl, hB2, .inr rfl, ⟨rfl, .inl ⟨rfl, rfl⟩⟩, fun k hk => by cases hk⟩, ?_, fun k hk => .inl (h.ql k hk), ?_, fun k hk => .inl (h.qs k hk), fun k hk => ?_, fun k hk ho => ?_⟩, ?_⟩
  · obtain ⟨vs, hr⟩ := h.recs
    have hr2 := hr.keep (P := fun _ => False) (Q' := fun k => O k ∨ Q k ∨ k = w.heap.size) (Keeps.of_below hbA) (fun _ _ h => h) (fun _ h => h.elim) (fun k hk => by
      rcases hk with hk | hk | hk
      · exact .inl (.inl hk)
      · exact .inl (.inr hk)
      · exact .inr (by omega))
    exact ⟨vs, hr2.keep hK (fun k hk e => offrow_ne hA.blk hr2.row (by decide) k hk e) (fun k hk => .inr (.inl (hk ▸ h.qg))) (fun k hk => .inl hk)⟩
  · exact hA.segs.keep hK (fun k hk e => offrow_ne hA.blk hA.segs (by decide) k hk e)
  · rcases hk with hk | hk
    · have := hA.lt k hk; simpa using this
    · rw [hk]; simpa using hwl
  · rcases hk with hk | hk
    · exact h.apart k hk ho
    · have := hO k ho; omega
  · exact (Keeps.of_below (O := fun k => Q k) hbA).trans hK (fun k hk => .inl (hk ▸ h.qg))
theorem l_push {O Q O5 Q5 : Nat → Prop} {w w5 w6 : World} {g p : Nat} {s : LSt} {st : DSt} {ov oldv v6 : Value} {la : Option Addr} {n lc : Nat} {vs : List Value} {b : List Int} (hA : LogAt O Q w g p s st O5 Q5 w5) (hW : WalIn O5 Q5 w5 g p s ov (.slice la n lc) oldv) (hR : Recs (fun k => O5 k ∨ Q5 k) w5 (.slice la n lc) s.L vs) (hn : n = vs.length)
    (hO6 : Own w6 w5.heap.size v6 b) (hb6 : Below w5.heap.size w5 w6) (hbl : b.length ≤ 140737488355328) (hl : (vs.length + 1) * 24 ≤ 140737488355328) :
    ∃ a1 k1 w7, (∀ ty, (Builtin.append_ #[72, 72] ty #[.slice la n lc, .slice (some ⟨w6.heap.size, 0, none⟩) 1 1]).run Tryz.prog (w6.alloc (.cells #[v6] 49)) = .ok (.slice a1 (n + 1) k1) w7) ∧
      Blk w7 g 75 (walV ov p s.first (.slice la n lc) oldv s.next s.code) ∧ ∃ Q7, LogAt O Q w g p { s with L := s.L ++ [b] } st O5 Q7 (w7.setCell ⟨g, 3, none⟩ (.slice a1 (n + 1) k1)) := by
  subst hn
  obtain ⟨iu, hiu, hzu, hsu, hbu⟩ := info_parts lst_info
  have hbA : Below w6.heap.size w6 (w6.alloc (.cells #[v6] 49)) := (Below.refl _ _).alloc (Nat.le_refl _) _
  have hbX := hb6.trans (hbA.mono hb6.size)
  have hWX := hW.below hbX
  have hRX := hR.keep (Q' := fun k => O5 k ∨ Q5 k) (P := fun _ => False) (Keeps.of_below hbX) (fun _ _ h => h) (fun _ h => h.elim) (fun k hk => .inl hk)
  have hv1 : ∀ k, v6.ownBlock = some k → w5.heap.size ≤ k ∧ k < w6.heap.size := fun k hk => by
    rcases hO6.2 with ⟨e, _⟩ | ⟨g', cap, cur, e, h1, h2, _⟩
    · rw [e] at hk; cases hk
    · rw [e] at hk; cases hk; exact ⟨h1, Blk.lt h2⟩
  have hone : v6.oneCell' = true := by
    obtain ⟨a6, c6, e⟩ := (Ints.own hO6 hbl).form
    rw [e]; rfl
  obtain ⟨v1, w7, hrun1, hoff1, hK1, hown1⟩ := run_append_off (P := Tryz.prog) (w6.alloc (.cells #[v6] 49)) 72 49 iu _ 1 24 Tryz.underlying72 hiu hzu hsu hbu rfl (by decide) (by decide) _ _ _ hRX.row
    ⟨w6.heap.size, 0, none⟩ 1 1 [v6] rfl (fun j u hj => by
      rw [add_any]
      have hbb : Blk (w6.alloc (.cells #[v6] 49)) w6.heap.size 49 #[v6] := Blk.alloc_new _ _ _
      rw [hbb.cell, Nat.zero_add]
      simpa using hj) (fun u hu => by simp at hu; rw [hu]; exact hone) (by unfold maxLen; omega) (by omega)
  have hlen : vs.length + 1 = (vs ++ [v6]).length := by simp
  rw [hlen] at hoff1
  obtain ⟨a1, k1, rfl, _, _⟩ := hoff1.slice
  have hb7 := blk_keep hWX.blk hK1 (fun hk => offrow_ne hWX.blk hRX.row (by decide) g hk rfl)
  obtain ⟨hnew, hKn⟩ := hWX.l_new (L' := s.L ++ [b]) (fun k hk => by have := hA.olt k hk; have := hbX.size; omega) hK1 (by simp [hR.len]) hoff1 hown1 (fun j v l hv hl' => by
    by_cases hj : j < vs.length
    · rw [List.getElem?_append_left hj] at hv
      rw [List.getElem?_append_left (by rw [← hR.len]; exact hj)] at hl'
      exact hRX.ints j v l hv hl'
    · have hj2 : j = vs.length := by
        have := (List.getElem?_eq_some_iff.1 hv).1
        simp at this; omega
      subst hj2
      rw [List.getElem?_append_right (Nat.le_refl _), Nat.sub_self] at hv
      rw [List.getElem?_append_right (by rw [hR.len]; exact Nat.le_refl _), hR.len, Nat.sub_self] at hl'
      cases hv
      cases hl'
      refine ⟨(Ints.own hO6 hbl).below hbA, fun k hk => ?_⟩
      obtain ⟨h1, h2⟩ := hv1 k hk
      refine ⟨fun hq => ?_, by have := hbA.size; omega⟩
      rcases hq with hq | hq
      · have := hA.olt k hq; omega
      · have := hW.lt k hq; omega)
  rw [← hlen] at hnew hKn hown1 hrun1
  have hKW : Keeps (fun k => Q5 k) w5 _ := (Keeps.of_below (O := fun k => Q5 k) hbX).trans hKn (fun k hk => .inl hk)
  refine ⟨a1, k1, w7, hrun1, hb7, _, hA.trans ⟨⟨_, _, _, hnew⟩, hA.disk.keep hKW (fun k hk hq => hW.apart k hq hk), fun k hk => by have := hA.olt k hk; have := hKW.size; omega, fun k hk => ?_, keeps_mono hKW (fun k hk => .inr hk)⟩⟩
  rcases hk with hk | hk | hk
  · exact .inl (.inl hk)
  · exact .inl (.inr hk)
  · rcases hown1 k hk with h1 | h1
    · exact .inl (.inr (hW.ql k h1))
    · exact .inr (by have := hbX.size; omega)
end Go.Proofs.YtcpkpljeimbdiaaGreat.W
namespace Go.Proofs.YtcpkpljeimbdiaaGreat.W
open Go.RowKit
open Aid K
set_option linter.unusedSimpArgs false
set_option linter.unusedVariables false
noncomputable def beS (s : LSt) (st : DSt) (ix : Int) : LSt × DSt :=
  let r := syS s st
  if r.1.code ≠ 0 then r else wrS { r.1 with opn := some ⟨r.1.next, ix, 0, []⟩, next := r.1.next + 1, old := r.1.old ++ [(r.1.next, ix)] } r.2 (putU ix.toNat)
def wantS (s : LSt) : Bool := match s.opn with
  | none => true
  | some q => decide (16 ≤ q.fu)
noncomputable def apS (s : LSt) (st : DSt) (b : List Int) : LSt × DSt × Int :=
  if s.code ≠ 0 then (s, st, s.code)
  else if 512 < b.length then (s, st, 50)
  else if s.first + s.L.length = 4611686018427387904 then (s, st, 51)
  else
    let r := if wantS s = true then beS s st (s.first + s.L.length) else (s, st)
    if r.1.code ≠ 0 then (r.1, r.2, r.1.code)
    else
      let x := wrS r.1 r.2 (putU b.length ++ b)
      ((if x.1.code = 0 then { x.1 with L := x.1.L ++ [b] } else x.1), x.2, x.1.code)
noncomputable def trS (s : LSt) (st : DSt) (i : Int) : LSt × DSt × Int :=
  if s.code ≠ 0 then (s, st, s.code)
  else if i < s.first ∨ (s.L.length : Int) < i - s.first then (s, st, 51)
  else if i - s.first = s.L.length then (s, st, 0)
  else
    let r := beS s st i
    ((if r.1.code = 0 then { r.1 with L := r.1.L.take (i - s.first).toNat } else r.1), r.2, r.1.code)
noncomputable def frF : Nat → LSt → DSt → Int → LSt × DSt
  | 0, s, st, _ => (s, st)
  | f + 1, s, st, i =>
    if 1 < s.old.length ∧ (s.old.tail.any fun x => decide (x.2 ≤ i)) = true then
      let a := 4 * (s.old.headD (0, 0)).1 + 1
      if doE st 2 a 0 [] ≠ 0 then ({ s with code := doE st 2 a 0 [] }, doS st 2 a 0 []) else frF f { s with old := s.old.tail } (doS st 2 a 0 []) i
    else (s, st)
noncomputable def coS (s : LSt) (st : DSt) (i : Int) : LSt × DSt × Int :=
  if s.code ≠ 0 then (s, st, s.code)
  else if i ≤ s.first then (s, st, 0)
  else if (s.L.length : Int) < i - s.first then (s, st, 51)
  else
    let r := if i = s.first + s.L.length then beS s st i else (s, st)
    let x := syS r.1 r.2
    if x.1.code ≠ 0 then (x.1, x.2, x.1.code)
    else
      let y := frF x.1.old.length x.1 x.2 i
      if y.1.code ≠ 0 then (y.1, y.2, y.1.code) else ({ y.1 with L := y.1.L.drop (i - s.first).toNat, first := i }, y.2, 0)
theorem syS_same (s : LSt) (st : DSt) : (syS s st).1.next = s.next ∧ (syS s st).1.old = s.old ∧ (syS s st).1.first = s.first ∧ (syS s st).1.L = s.L ∧ (syS s st).1.opn = s.opn := by
  unfold syS
  split
  · exact ⟨rfl, rfl, rfl, rfl, rfl⟩
  · split
    · exact ⟨rfl, rfl, rfl, rfl, rfl⟩
    · exact ⟨rfl, rfl, rfl, rfl, rfl⟩
theorem syS_fit {s : LSt} {st : DSt} {R : Int} {i : Nat} (h : FitS st R i) : FitS (syS s st).2 R (i + 1) := by
  unfold syS
  split
  · exact fit_mono h (by omega)
  · split
    · exact fit_mono h (by omega)
    · rename_i q hq
      exact fit_do (k := 1) (a := 4 * q.nu + 1) (n := 0) (l := []) h (by decide)
theorem wrF_fit {a : Int} {R : Int} : ∀ (f : Nat) {st : DSt} {i : Nat} {full : Nat} {rest : List Int}, FitS st R i → full + f ≤ 1000000 → FitS (wrF a f st full rest).1 R (i + f)
  | 0, st, i, full, rest, h, _ => h
  | f + 1, st, i, full, rest, h, hf => by
    have h1 : FitS (doS st 0 a full (secW rest)) R (i + 1) := fit_do h (wf_i64 (by omega) (by omega))
    rw [wrF]
    split
    · exact fit_mono h1 (by omega)
    · split
      · exact fit_mono h1 (by omega)
      · have := wrF_fit (a := a) f (full := full + 1) (rest := rest.drop 63) h1 (by omega)
        rw [show i + (f + 1) = i + 1 + f by omega]
        exact this
theorem wrS_same (s : LSt) (st : DSt) (b : List Int) : (wrS s st b).1.next = s.next ∧ (wrS s st b).1.old = s.old ∧ (wrS s st b).1.first = s.first ∧ (wrS s st b).1.L = s.L := by
  unfold wrS
  split <;> exact ⟨rfl, rfl, rfl, rfl⟩
theorem wrF_full {a : Int} : ∀ (f : Nat) {st : DSt} {full : Nat} {rest : List Int}, rest.length ≤ f → full ≤ (wrF a f st full rest).2.1 ∧ (wrF a f st full rest).2.1 ≤ full + rest.length / 63 ∧ ((wrF a f st full rest).2.2.2 = 0 → (wrF a f st full rest).2.2.1.length ≤ 62) ∧ (By8 rest → By8 (wrF a f st full rest).2.2.1)
  | 0, st, full, rest, h => by
    have : rest = [] := List.eq_nil_of_length_eq_zero (by omega)
    subst this
    exact ⟨Nat.le_refl _, by simp [wrF], fun _ => by simp [wrF], fun h => h⟩
  | f + 1, st, full, rest, h => by
    rw [wrF]
    split
    · refine ⟨Nat.le_refl _, Nat.le_add_right _ _, fun hc => ?_, fun h => h⟩
      rename_i ho
      rcases ho with ho | ho
      · exact absurd hc ho
      · simp only; omega
    · rename_i ho
      have h63 : 63 ≤ rest.length := by
        refine Nat.le_of_not_lt fun hh => ho (.inr hh)
      split
      · exact ⟨Nat.le_succ _, by simp only; omega, fun _ => by simp, fun _ x hx => by simp at hx⟩
      · obtain ⟨h1, h2, h3, h4⟩ := wrF_full (a := a) f (st := doS st 0 a full (secW rest)) (full := full + 1) (rest := rest.drop 63) (by rw [List.length_drop]; omega)
        rw [List.length_drop] at h2
        exact ⟨by omega, by omega, h3, fun hb => h4 (fun x hx => hb x (List.mem_of_mem_drop hx))⟩
structure OpnOk (q : Opn) : Prop where
  n0 : 0 ≤ q.nu
  n1 : q.nu < 2305843009213693952
  rest : q.rest.length ≤ 62
  by8 : By8 q.rest
  fu : q.fu ≤ 100
structure LogOk (s : LSt) (k : Nat) : Prop where
  opn : ∀ q, s.opn = some q → OpnOk q
  next : 0 ≤ s.next ∧ s.next + k < 2305843009213693951
  first : 0 ≤ s.first
  top : s.first + s.L.length ≤ 4611686018427387904
  old : s.old.length + k ≤ 4398046511104
  len : s.L.length + k ≤ 4398046511104
  olds : ∀ x ∈ s.old, 0 ≤ x.1 ∧ x.1 < 2305843009213693952
theorem wrS_opn {s : LSt} {st : DSt} {b : List Int} {q : Opn} (hq : s.opn = some q) (h : OpnOk q) (hb : By8 b) (hl : b.length ≤ 522) (hfu : q.fu ≤ 80) (hc : (wrS s st b).1.code = 0) : ∃ q', (wrS s st b).1.opn = some q' ∧ OpnOk q' ∧ q.fu ≤ q'.fu ∧ q'.fu ≤ q.fu + (q.rest.length + b.length) / 63 := by
  unfold wrS at hc ⊢
  rw [hq] at hc ⊢
  simp only at hc ⊢
  obtain ⟨h1, h2, h3, h4⟩ := wrF_full (a := 4 * q.nu + 1) (q.rest.length + b.length) (st := st) (full := q.fu) (rest := q.rest ++ b) (by rw [List.length_append]; exact Nat.le_refl _)
  rw [List.length_append] at h2
  have := h.rest
  refine ⟨_, rfl, ⟨h.n0, h.n1, h3 hc, h4 (fun x hx => ?_), by simp only; omega⟩, h1, h2⟩
  rcases List.mem_append.1 hx with hx | hx
  · exact h.by8 x hx
  · exact hb x hx
theorem wrS_fit {s : LSt} {st : DSt} {R : Int} {i : Nat} {b : List Int} (h : FitS st R i) (hs : ∀ q, s.opn = some q → q.fu ≤ 1000 ∧ q.rest.length ≤ 100) (hb : b.length ≤ 600) : FitS (wrS s st b).2 R (i + 700) := by
  unfold wrS
  split
  · exact fit_mono h (by omega)
  · rename_i q hq
    obtain ⟨h1, h2⟩ := hs q hq
    exact fit_mono (wrF_fit _ h (by omega)) (by omega)
theorem putU_by : ∀ (k n : Nat), n < 128 ^ (k + 1) → By8 (putU n)
  | 0, n, h => by
    rw [putU_small (by omega)]
    intro x hx
    simp at hx
    omega
  | k + 1, n, h => by
    by_cases hb : 128 ≤ n
    · rw [putU_big hb]
      intro x hx
      rcases List.mem_cons.1 hx with rfl | hx
      · omega
      · exact putU_by k (n / 128) (by rw [Nat.pow_succ] at h; omega) x hx
    · rw [putU_small (by omega)]
      intro x hx
      simp at hx
      omega
theorem putU_by8 {n : Nat} (h : n < 18446744073709551616) : By8 (putU n) := putU_by 9 n (by omega)
theorem putU_ne (n : Nat) : putU n ≠ [] := by
  by_cases hb : 128 ≤ n
  · rw [putU_big hb]; simp
  · rw [putU_small (by omega)]; simp
end Go.Proofs.YtcpkpljeimbdiaaGreat.W
namespace Go.Proofs.YtcpkpljeimbdiaaGreat.W
open Go.RowKit
open Aid K
set_option linter.unusedSimpArgs false
set_option linter.unusedVariables false
set_option maxRecDepth 100000 in
set_option maxHeartbeats 2000000 in
theorem begin_any (O Q : Nat → Prop) (g p : Nat) (s : LSt) (st : DSt) (R : Int) (i : Nat) (ix : Int) (w : World) (hW : WalIs O Q w g p s) (hc : s.code = 0) (hD : DiskIs O w p st) (hO : ∀ k, O k → k < w.heap.size)
    (hF : FitS st R i) (hi : i + 1100 ≤ 4398046511103) (hR : R ≤ 9223372036854775807) (hn : ∀ q, s.opn = some q → 0 ≤ q.nu ∧ q.nu < 2305843009213693952) (hx0 : 0 ≤ s.next) (hx1 : s.next < 2305843009213693951) (hi0 : 0 ≤ ix) (hi1 : ix < 18446744073709551616) (hol : s.old.length ≤ 4398046511104) :
    Calls Tryz.prog 33 #[.pointer (some ⟨g, 0, none⟩), .int .u64 ix] w (LogEnd O Q g p (beS s st ix).1.code (beS s st ix).1 (beS s st ix).2 w) := by
  have hsync := sync_log O Q g p s st R i w hW hD hO hF (by omega) hR hn
  obtain ⟨r, hr⟩ : ∃ r, syS s st = r := ⟨_, rfl⟩
  obtain ⟨hr1, hr2, hr3, hr4, hr6⟩ := syS_same s st
  have hr5 := syS_fit (s := s) hF
  rw [hr] at hr1 hr2 hr3 hr4 hr5
  obtain ⟨Z, hZ⟩ : ∃ Z, beS s st ix = Z := ⟨_, rfl⟩
  rw [hZ]
  unfold beS at hZ
  simp only at hZ
  rw [hr] at hsync hZ
  obtain ⟨s1, st1⟩ := r
  simp only at hsync hr1 hr2 hr3 hr4 hr5 hZ
  have HZ := Lib.hid hZ
  clear hZ
  have HSY := Lib.hid hsync
  clear hsync hr hr6 hW hD hO hF hn
  go_enter Tryz.func33, Tryz.ntmps33
  go_wp2_with fail
  refine HSY.out.mono ?_
  rintro e w1 ⟨rfl, O1, Q1, hA1⟩
  clear HSY
  have hA1' := hA1
  obtain ⟨⟨ov, lv, oldv, hW1⟩, hD1, hO1, hg1, hK1⟩ := hA1
  obtain ⟨c0, c1, c2, c3, c4, c5, c6⟩ := blk7 hW1.blk
  obtain ⟨f0, f1, f2, f3, f4, f5, f6⟩ := free7 hW1.blk
  have hgl := Blk.lt hW1.blk
  by_cases hE : s1.code = 0
  · have HA1 := Lib.hid hA1'
    rw [hE] at c6 ⊢
    obtain ⟨oa, oc, rfl, hoc, hoz⟩ := OffRow.slice hW1.segs
    have hnw : IntKind.u64.wrap (s.next + 1) = s.next + 1 := by rw [IntKind.wrap_u64]; omega
    rw [hr1] at c5
    rw [hr2] at c4
    obtain ⟨hop, hKop⟩ := hW1.open_new (n := s.next) (ix := ix) hO1
    have hgl0 := hgl
    obtain ⟨X1, hX1⟩ : ∃ X1, ((w1.alloc (.cells (openV s.next ix 0 (.slice none 0 0)) 86)).setCell ⟨g, 0, none⟩ (.pointer (some ⟨w1.heap.size, 0, none⟩))) = X1 := ⟨_, rfl⟩
    rw [hX1] at hop hKop
    have hs5 : (X1.setCell ⟨g, 5, none⟩ (.int .u64 (s.next + 1))).heap.size = X1.heap.size := by simp [World.setCell]
    have hK5 : Keeps (fun k => k = g) X1 (X1.setCell ⟨g, 5, none⟩ (.int .u64 (s.next + 1))) := set_keeps (Keeps.refl _ _) rfl (StrRow.no_blk hop.blk (by decide))
    have hop5 := hop.turn (s' := { s1 with opn := some ⟨s.next, ix, 0, []⟩, next := s.next + 1 }) hK5 hs5 (hop.blk.set 5 _) rfl rfl rfl
    obtain ⟨WA, hWA⟩ : ∃ WA, (((w1.setCell ⟨g, 0, none⟩ (.pointer (some ⟨w1.heap.size, 0, none⟩))).setCell ⟨g, 5, none⟩ (.int .u64 (s.next + 1))).alloc
      (.cells #[.int .u64 s.next, .int .u64 ix, .int .i64 0, .slice none 0 0] 86)) = WA := ⟨_, rfl⟩
    have hWA2 : X1.setCell ⟨g, 5, none⟩ (.int .u64 (s.next + 1)) = WA := by
      rw [← hX1, World.setCell_alloc_past _ _ _ _ hgl0, World.setCell_alloc_past _ _ _ _ (by simpa using hgl0), ← hWA]
      rfl
    rw [hWA2] at hop5 hK5 hs5
    have hKA : Keeps (fun k => Q1 k) w1 WA := hKop.trans hK5 (fun k hk => .inl (hk ▸ hW1.qg))
    have hOA : ∀ k, O1 k → k < WA.heap.size := fun k hk => by have := hO1 k hk; have := hKA.size; omega
    -- the segment in a row of its own
    have hbX : Below WA.heap.size WA (WA.alloc (.cells #[.int .u64 s.next, .int .u64 ix] 80)).drew := ((Below.refl _ _).alloc (Nat.le_refl _) _).drew
    have hopX := hop5.below hbX
    obtain ⟨iu, hiu, hzu, hsu, hbu⟩ := info_parts seg_info
    obtain ⟨v1, w2, hrun1, hoff1, hK1', hown1⟩ := run_append_off (P := Tryz.prog) (WA.alloc (.cells #[.int .u64 s.next, .int .u64 ix] 80)).drew 73 80 iu _ 2 16 Tryz.underlying73 hiu hzu hsu hbu rfl (by decide) (by decide) _ _ _ hopX.segs
      ⟨WA.heap.size, 0, none⟩ 1 1 [.int .u64 s.next, .int .u64 ix] rfl (fun j u hj => by
        rw [add_any]
        have hbb : Blk (WA.alloc (.cells #[.int .u64 s.next, .int .u64 ix] 80)).drew WA.heap.size 80 #[.int .u64 s.next, .int .u64 ix] := Blk.alloc_new _ _ _
        rw [hbb.cell, Nat.zero_add]
        simpa using hj) (fun u hu => by simp at hu; rcases hu with rfl | rfl <;> rfl) (by unfold maxLen; rw [hr2]; omega) (by rw [hr2]; omega)
    have hsegs : Segs w2 v1 (s1.old ++ [(s.next, ix)]) := by
      unfold Segs
      rw [List.length_append, segC_append]
      exact hoff1
    obtain ⟨a1, k1, rfl, _, _⟩ := OffRow.slice hsegs
    have hlen1 : (s1.old ++ [(s.next, ix)]).length = s.old.length + 1 := by rw [List.length_append, hr2]; rfl
    rw [hlen1] at hrun1 hsegs hown1
    obtain ⟨hnew, hKn⟩ := hopX.old_new (fun k hk => by have := hOA k hk; have := hbX.size; omega) hK1' hsegs hown1
    have hb2 := blk_keep hopX.blk hK1' (fun hk => offrow_ne hopX.blk hopX.segs (by decide) g hk rfl)
    obtain ⟨e0, _, _, _, e4, _, _⟩ := blk7 hb2
    obtain ⟨h0, _, _, _, h4, _, _⟩ := free7 hb2
    obtain ⟨y0, _, _, _, y4, _, _⟩ := blk7 hop5.blk
    have hglA : g < WA.heap.size := Blk.lt hop5.blk
    rw [hr2] at y4
    have x0 : ∀ x : Obj, (WA.alloc x).cell? ⟨g, 0, none⟩ = some (.pointer (some ⟨w1.heap.size, 0, none⟩)) := fun x => (((Below.refl WA.heap.size WA).alloc (Nat.le_refl _) x).cell (p := ⟨g, 0, none⟩) hglA).trans y0
    have x4 : ∀ x : Obj, (WA.alloc x).cell? ⟨g, 4, none⟩ = some (.slice oa s.old.length oc) := fun x => (((Below.refl WA.heap.size WA).alloc (Nat.le_refl _) x).cell (p := ⟨g, 4, none⟩) hglA).trans y4
    obtain ⟨bo, rvo, hbo, hBo, _⟩ := hop5.opn
    cases hbo
    obtain ⟨z0, z1, z2, z3, _, _⟩ := openV_at hBo
    have hKW := hKA.trans ((Keeps.of_below (O := fun k => Q1 k ∨ k = w1.heap.size) hbX).trans hKn (fun k hk => .inl hk)) (fun k hk => hk.elim .inl (fun e => .inr (by omega)))
    have hDW := hD1.keep hKW (fun k hk hq => hW1.apart k hq hk)
    have HAT := Lib.hid (show ∃ Q5, LogAt O1 Q1 w1 g p { s1 with opn := some ⟨s.next, ix, 0, []⟩, next := s.next + 1, old := s1.old ++ [(s.next, ix)] } st1 O1 Q5 _ from ⟨_, ⟨⟨_, _, _, hnew⟩, hDW, fun k hk => by have := hO1 k hk; have := hKW.size; omega, fun k hk => by
      rcases hk with hk | (hk | hk) | hk
      · exact .inl (.inl hk)
      · exact .inl (.inr hk)
      · exact .inr (by omega)
      · rcases hown1 k hk with h | h
        · rcases hopX.qs k h with h | h
          · exact .inl (.inr h)
          · exact .inr (by omega)
        · exact .inr (by have := hKA.size; have := hbX.size; omega), keeps_mono hKW (fun k hk => .inr hk)⟩⟩)
    rw [hr2] at hrun1
    have HRUN := Lib.hid hrun1
    clear hA1' hD1 hDW hW1 hg1 hK1 hop hop5 hopX hKop hK5 hs5 hX1 hWA2 hKA hOA hoff1 hsegs hK1' hown1 hnew hKn hb2 hBo hKW hrun1 hbX
    go_wp2_with fail
    refine' wp_cut0 _ _ ?reg ?imp
    case reg =>
      go_region_law (refine step_append_off rfl (.tmp 34) (.tmp 42) 73 rfl _ _ w2 ⟨WA.heap.size, 0, none⟩ 1 1 rfl rfl HRUN.out ?_)
      all_goals
        refine ⟨rfl, ?_, ?_⟩
        · exact Eq.refl _
        · exact Eq.refl _
    case imp =>
      obtain ⟨W5, hW5⟩ : ∃ W5, w2.setCell ⟨g, 4, none⟩ (.slice a1 (s.old.length + 1) k1) = W5 := ⟨_, rfl⟩
      rw [hW5] at HAT ⊢
      go_wp2_with fail
      obtain ⟨m, hm⟩ := Int.eq_ofNat_of_zero_le hi0
      subst hm
      refine (putuint_any W5.heap.size (.slice none 0 0) [] m W5 (World.ownsRow_nil _ _ _ _) (Nat.le_refl _) (by simp) (by omega)).mono ?_
      rintro e w6 ⟨v6, rfl, hO6, hb6⟩
      obtain ⟨Q5, hA5⟩ := HAT.out
      have hA6 := hA5.below hb6
      have hI6 : Ints w6 .u8 v6 (putU m) := Ints.own hO6 (by have := putU_ten (n := m) (by omega); omega)
      have hz := HZ.out
      rw [if_neg (by simp [hE]), hr1, Int.toNat_natCast] at hz
      have hwr := write_any O1 Q5 g p { s1 with opn := some ⟨s.next, m, 0, []⟩, next := s.next + 1, old := s1.old ++ [(s.next, (m : Int))] } ⟨s.next, m, 0, []⟩ st1 R (i + 1) v6 (putU m) w6 hA6.wal rfl hE hA6.disk hA6.olt hr5 (by omega) hR hI6 (putU_by8 (by omega)) (fun x hx => by cases hx) (putU_ne m) (by have := putU_ten (n := m) (by omega); omega) (by simp) (by simp) hx0 (by show s.next < _; omega)
      rw [hz] at hwr
      have HA6 := Lib.hid hA6
      clear hA5 hA6 hI6 hO6 hz
      go_wp2_with fail
      refine hwr.mono ?_
      rintro e w7 ⟨rfl, O7, Q7, hA7⟩
      go_wp2_with fail
      go_ret
      exact ⟨rfl, O7, Q7, HA1.out.trans (HA6.out.trans hA7)⟩
  · have hE1 : (s1.code == 0) = false := by simpa using hE
    have hE2 : (s1.code != 0) = true := by simpa using hE
    have HA1 := Lib.hid hA1'
    clear hA1' hW1 hD1 hg1 hK1
    go_wp2_with fail
    go_ret
    have hz := HZ.out
    rw [if_pos hE] at hz
    rw [← hz]
    exact ⟨rfl, O1, Q1, HA1.out⟩
end Go.Proofs.YtcpkpljeimbdiaaGreat.W
namespace Go.Proofs.YtcpkpljeimbdiaaGreat.W
open Go.RowKit
open Aid K
set_option linter.unusedSimpArgs false
set_option linter.unusedVariables false
theorem last_wrap {first : Int} {n : Nat} (h0 : 0 ≤ first) (h1 : first + n ≤ 4611686018427387904) : IntKind.u64.wrap (IntKind.u64.wrap (IntKind.u64.wrap (first + n) - 1) + 1) = first + n := by
  have e1 : IntKind.u64.wrap (first + n) = first + n := by rw [IntKind.wrap_u64]; omega
  rw [e1]
  by_cases hz : first + n = 0
  · rw [hz]; decide
  · have e2 : IntKind.u64.wrap (first + n - 1) = first + n - 1 := by rw [IntKind.wrap_u64]; omega
    rw [e2, IntKind.wrap_u64]; omega
theorem beS_opn {s s3 : LSt} {st st3 : DSt} {ix R : Int} {i : Nat} (h : beS s st ix = (s3, st3)) (hc : s3.code = 0) (h0 : 0 ≤ s.next) (h1 : s.next < 2305843009213693952) (hx : 0 ≤ ix ∧ ix < 18446744073709551616) (hF : FitS st R i) : ∃ q3 i3, s3.opn = some q3 ∧ OpnOk q3 ∧ FitS st3 R i3 ∧ i3 ≤ i + 1100 := by
  unfold beS at h
  simp only at h
  have hs := syS_same s st
  have hf := syS_fit (s := s) hF
  obtain ⟨r, hr⟩ : ∃ r, syS s st = r := ⟨_, rfl⟩
  rw [hr] at h hs hf
  split at h
  · rename_i hh
    rw [h] at hh
    exact absurd hc hh
  · have hq : OpnOk ⟨r.1.next, ix, 0, []⟩ := ⟨by rw [hs.1]; exact h0, by rw [hs.1]; exact h1, by simp, fun x hx => by simp at hx, by simp⟩
    have hten := putU_ten (n := ix.toNat) (by omega)
    obtain ⟨q', h2, h3, _⟩ := wrS_opn (s := { r.1 with opn := some ⟨r.1.next, ix, 0, []⟩, next := r.1.next + 1, old := r.1.old ++ [(r.1.next, ix)] }) (st := r.2) (b := putU ix.toNat) rfl hq (putU_by8 (by omega)) (by omega) (by simp) (by rw [h]; exact hc)
    have h4 := wrS_fit (s := { r.1 with opn := some ⟨r.1.next, ix, 0, []⟩, next := r.1.next + 1, old := r.1.old ++ [(r.1.next, ix)] }) (b := putU ix.toNat) hf (fun q hq => by cases hq; exact ⟨by simp, by simp⟩) (by omega)
    rw [h] at h2 h4
    exact ⟨q', _, h2, h3, h4, by omega⟩
theorem beS_same (s : LSt) (st : DSt) (ix : Int) : (beS s st ix).1.first = s.first ∧ (beS s st ix).1.L = s.L := by
  unfold beS
  simp only
  obtain ⟨_, _, h1, h2, _⟩ := syS_same s st
  split
  · exact ⟨h1, h2⟩
  · obtain ⟨_, _, h3, h4⟩ := wrS_same { (syS s st).1 with opn := some ⟨(syS s st).1.next, ix, 0, []⟩, next := (syS s st).1.next + 1, old := (syS s st).1.old ++ [((syS s st).1.next, ix)] } (syS s st).2 (putU ix.toNat)
    exact ⟨h3.trans h1, h4.trans h2⟩
theorem beS_len {s s3 : LSt} {st st3 : DSt} {ix : Int} (h : beS s st ix = (s3, st3)) : s3.L.length ≤ s.L.length := by
  have := (beS_same s st ix).2
  rw [h] at this
  rw [show s3.L = s.L from this]
  exact Nat.le_refl _
theorem ints_kept3 {k : IntKind} {P : Nat → Prop} {w w' : World} {v : Value} {l : List Int} (h : Ints w k v l) (hK : Keeps P w w') (hP : ∀ b, v.ownBlock = some b → l ≠ [] → ¬ P b) : Ints w' k v l := by
  by_cases hl : l = []
  · subst hl
    refine ⟨h.1, .inl ⟨rfl, ?_⟩⟩
    obtain ⟨_, ⟨_, h1⟩ | ⟨b, off, cap, hv, hlt, hc⟩⟩ := h
    · exact h1
    · exact .inr ⟨_, _, hv⟩
  · exact ints_kept2 h hK (fun b hb => hP b hb hl)
set_option maxRecDepth 100000 in
set_option maxHeartbeats 2000000 in
theorem append_any (O Q : Nat → Prop) (g p : Nat) (s : LSt) (st : DSt) (R : Int) (i k : Nat) (bv : Value) (b : List Int) (w : World) (hW : WalIs O Q w g p s) (hD : DiskIs O w p st) (hO : ∀ k, O k → k < w.heap.size)
    (hF : FitS st R i) (hi : i + 2200 ≤ 4398046511103) (hR : R ≤ 9223372036854775807) (hok : s.code = 0 → LogOk s (k + 1)) (hf0 : 0 ≤ s.first) (hft : s.first + s.L.length ≤ 4611686018427387904) (hI : Ints w .u8 bv b) (hb : By8 b) (hbo : ∀ k, bv.ownBlock = some k → b ≠ [] → ¬ (O k ∨ Q k)) :
    Calls Tryz.prog 14 #[.pointer (some ⟨g, 0, none⟩), bv] w (LogEnd O Q g p (apS s st b).2.2 (apS s st b).1 (apS s st b).2.1 w) := by
  have hWis := hW
  obtain ⟨ov, lv, oldv, hW⟩ := hW
  obtain ⟨c0, c1, c2, c3, c4, c5, c6⟩ := blk7 hW.blk
  obtain ⟨vs, hrec⟩ := hW.recs
  obtain ⟨la, lc, hlv, _, _⟩ := hrec.row.slice
  have hlen := hrec.len
  obtain ⟨ba, bc, rfl⟩ := hI.form
  obtain ⟨Z, hZ⟩ : ∃ Z, apS s st b = Z := ⟨_, rfl⟩
  rw [hZ]
  unfold apS at hZ
  have HZ := Lib.hid hZ
  clear hZ
  subst hlv
  have hlw := fun h => last_wrap (first := s.first) (n := vs.length) hf0 h
  obtain ⟨LV, hLV⟩ : ∃ LV, IntKind.u64.wrap (IntKind.u64.wrap (s.first + vs.length) - 1) = LV := ⟨_, rfl⟩
  obtain ⟨TV, hTV⟩ : ∃ TV, s.first + (vs.length : Int) = TV := ⟨_, rfl⟩
  rw [hLV] at hlw
  rw [hTV] at hlw
  have HLAST := Lib.hid (show ∀ w', Below w.heap.size w w' → Calls Tryz.prog 13 #[.pointer (some ⟨g, 0, none⟩)] w' fun e w2 => e = .returned (.int .u64 LV) ∧ Below w'.heap.size w' w2 from fun w' hb => by
    have := last_any g ov p s.first la vs.length lc oldv s.next s.code w' (hW.below hb).blk (by omega)
    rw [hLV] at this
    exact this)
  have HTV := Lib.hid hTV
  have hlw := hlw (by omega)
  clear hLV hTV
  by_cases hc : s.code = 0
  · by_cases hbl : (512 : Int) < (b.length : Int)
    · rw [hc] at c6
      go_enter Tryz.func14, Tryz.ntmps14
      go_wp2_with fail
      go_ret
      have hz := HZ.out
      rw [if_neg (by simp [hc]), if_pos (by omega)] at hz
      rw [← hz]
      exact ⟨rfl, O, Q, LogAt.refl hWis hD hO⟩
    · rw [hc] at c6
      by_cases htop : TV = 4611686018427387904
      · go_enter Tryz.func14, Tryz.ntmps14
        go_wp2_with fail
        refine (HLAST.out _ (Below.refl _ _)).mono ?_
        rintro e w1 ⟨rfl, hb1⟩
        go_wp2_with fail
        go_ret
        have hz := HZ.out
        rw [if_neg (by simp [hc]), if_neg (by omega), if_pos (by have := HTV.out; omega)] at hz
        rw [← hz]
        exact ⟨rfl, O, Q, (LogAt.refl hWis hD hO).below hb1⟩
      · have htb : (TV == 4611686018427387904) = false := by rw [beq_eq_false_iff_ne]; exact htop
        have hopn := hW.opn
        cases hq : s.opn with
        | none =>
          rw [hq] at hopn
          have hov : ov = .pointer none := hopn
          subst hov
          go_enter Tryz.func14, Tryz.ntmps14
          go_wp2_with fail
          refine (HLAST.out _ (Below.refl _ _)).mono ?_
          rintro e w1 ⟨rfl, hb1⟩
          have hW1 := hW.below hb1
          obtain ⟨e0, e1, e2, e3, e4, e5, e6⟩ := blk7 hW1.blk
          rw [hc] at e6
          clear hW1
          go_wp2_with fail
          refine (HLAST.out _ hb1).mono ?_
          rintro e w2 ⟨rfl, hb2⟩
          have hA2 := ((LogAt.refl hWis hD hO).below hb1).below hb2
          have hLok := hok hc
          have hbeg := begin_any O Q g p s st R i TV w2 hA2.wal hc hA2.disk hA2.olt hF (by omega) hR (fun q' hq' => by rw [hq] at hq'; cases hq') hLok.next.1 (by have := hLok.next.2; omega) (by have := HTV.out; omega) (by have := HTV.out; omega) (by have := hLok.old; omega)
          obtain ⟨r3, hr3⟩ : ∃ r3, beS s st TV = r3 := ⟨_, rfl⟩
          rw [hr3] at hbeg
          have HR3 := Lib.hid hr3
          have HBEG := Lib.hid hbeg
          have HA2 := Lib.hid hA2
          obtain ⟨s3, st3⟩ := r3
          clear hr3 hbeg hA2
          go_wp2_with fail
          refine HBEG.out.mono ?_
          rintro e w3 ⟨rfl, O3, Q3, hA3⟩
          have HAT3 := Lib.hid (HA2.out.trans hA3)
          obtain ⟨ov3, lv3, oldv3, hW3⟩ := hA3.wal
          obtain ⟨j0, j1, j2, j3, j4, j5, j6⟩ := blk7 hW3.blk
          by_cases h3 : s3.code = 0
          · rw [h3] at j6
            have HC3 := Lib.hid h3
            clear hA3 hW3
            have hz := HZ.out
            rw [if_neg (by simp [hc]), if_neg (by omega), if_neg (by have := HTV.out; omega)] at hz
            have hw : wantS s = true := by unfold wantS; rw [hq]
            simp only [hw, if_true] at hz
            rw [show s.first + (s.L.length : Int) = TV by have := HTV.out; omega, HR3.out, if_neg (by simp [h3])] at hz
            have HZ3 := Lib.hid hz
            obtain ⟨q3, i3, hq3, hok3, hf3, hi3⟩ := beS_opn HR3.out h3 hLok.next.1 (by have := hLok.next.2; omega) (by have := HTV.out; omega) hF
            have HQ3 := Lib.hid (And.intro hq3 hok3)
            have HFI := Lib.hid (And.intro hf3 hi3)
            clear hz hq3 hok3 hf3 hi3
            go_wp2_with fail
            have HLS := Lib.hid (show s3.L.length ≤ s.L.length from beS_len HR3.out)
            -- the tail
            have h3c : s3.code = 0 := HC3.out
            have hI3 : Ints w3 .u8 (.slice ba b.length bc) b := ints_kept3 hI HAT3.out.keep hbo
            refine (putbytes_nil _ b w3 hI3 (by omega)).mono ?_
            rintro e w4 ⟨v4, rfl, hO4, hb4⟩
            have hA4 := HAT3.out.below hb4
            have hten := putU_ten (n := b.length) (by omega)
            have hI4 : Ints w4 .u8 v4 (putU b.length ++ b) := Ints.own hO4 (by rw [List.length_append]; omega)
            have hwr := write_any O3 Q3 g p s3 q3 st3 R i3 v4 (putU b.length ++ b) w4 hA4.wal HQ3.out.1 h3c hA4.disk hA4.olt HFI.out.1 (by have := HFI.out.2; omega) hR hI4 (fun x hx => (List.mem_append.1 hx).elim (fun h => putU_by8 (by omega) x h) (fun h => hb x h)) HQ3.out.2.by8 (by simp [putU_ne]) (by rw [List.length_append]; omega) (by have := HQ3.out.2.rest; omega) (by have := HQ3.out.2.fu; omega) HQ3.out.2.n0 HQ3.out.2.n1
            obtain ⟨s5, hs5⟩ : ∃ s5, (wrS s3 st3 (putU b.length ++ b)).1 = s5 := ⟨_, rfl⟩
            obtain ⟨st5, hst5⟩ : ∃ st5, (wrS s3 st3 (putU b.length ++ b)).2 = st5 := ⟨_, rfl⟩
            rw [hs5, hst5] at hwr
            have HWR := Lib.hid hwr
            have HS5 := Lib.hid (And.intro hs5 hst5)
            have HLL := Lib.hid (show s5.L.length ≤ s.L.length from by rw [← hs5, (wrS_same _ _ _).2.2.2]; exact HLS.out)
            have HA4 := Lib.hid hA4
            clear hwr hs5 hst5 hA4 hI3 hI4 hO4 hb4 h3c
            go_wp2_with fail
            refine HWR.out.mono ?_
            rintro e w5 ⟨rfl, O5, Q5, hA5⟩
            have hAA := HA4.out.trans hA5
            obtain ⟨ov5, lv5, oldv5, hW5⟩ := hA5.wal
            obtain ⟨k0, k1, k2, k3, k4, k5, k6⟩ := blk7 hW5.blk
            have HAA := Lib.hid hAA
            by_cases h5 : s5.code = 0
            · have hI5 : Ints w5 .u8 (.slice ba b.length bc) b := ints_kept3 hI hAA.keep hbo
              have HCL := Lib.hid (show ∀ w', Below w5.heap.size w5 w' → Calls Tryz.prog 36 #[.slice ba b.length bc] w' fun e w2 => ∃ v', e = .returned v' ∧ Own w2 w'.heap.size v' b ∧ Below w'.heap.size w' w2 from fun w' hb' => clone_any _ b w' (hI5.below hb'))
              have HW5 := Lib.hid hW5
              obtain ⟨vs5, hrec5⟩ := hW5.recs
              obtain ⟨la5, lc5, rfl, _, _⟩ := hrec5.row.slice
              rw [h5] at k6
              have hls : s5.L.length ≤ s.L.length := HLL.out
              have HPU := Lib.hid (show ∀ w6 v6, Own w6 w5.heap.size v6 b → Below w5.heap.size w5 w6 → _ from fun w6 v6 hO6 hb6 => l_push hAA hW5 hrec5 rfl hO6 hb6 (by omega) (by have := hrec5.len; have := hLok.len; omega))
              have hgl5 : g < w5.heap.size := Blk.lt hW5.blk
              clear hA5 hAA hW5 hI5 hrec5
              go_wp2_with fail
              go_region_law
                (first
                  | (go_simp
                     go_at_call 36
                     refine (HCL.out _ (Below.refl _ _).drew).mono ?_
                     rintro e w6 ⟨v6, rfl, hO6, hb6⟩
                     have hb6' : Below w5.heap.size w5 w6 := ((Below.refl w5.heap.size w5).drew).trans hb6
                     obtain ⟨a6, c6, rfl⟩ := (Ints.own hO6 (by omega)).form
                     have g3 := (hb6'.cell (p := ⟨g, 3, none⟩) hgl5).trans k3
                     have g3a : ∀ x : Obj, (w6.alloc x).cell? ⟨g, 3, none⟩ = some (.slice la5 vs5.length lc5) := fun x => (((Below.refl w6.heap.size w6).alloc (Nat.le_refl _) x).cell (p := ⟨g, 3, none⟩) (Nat.lt_of_lt_of_le hgl5 hb6'.size)).trans g3
                     have HO6 := Lib.hid (And.intro hO6 hb6')
                     clear hO6 hb6 hb6')
                  | (obtain ⟨a1, k1, w7, hrun1, hb7, Q7, hA7⟩ := HPU.out _ _ HO6.out.1 HO6.out.2
                     refine step_append_off rfl (.tmp 60) (.tmp 63) 72 rfl _ _ w7 ⟨w6.heap.size, 0, none⟩ 1 1 rfl rfl hrun1 ?_
                     obtain ⟨_, _, _, m3, _, _, m6⟩ := blk7 hb7
                     obtain ⟨_, _, _, n3, _, _, _⟩ := free7 hb7
                     rw [h5] at m6
                     have HA7 := Lib.hid hA7
                     clear hrun1 hb7 hA7)
                  | fail "no")
              all_goals
                go_wp2_with fail
                go_ret
                have hz := HZ3.out
                rw [HS5.out.1, HS5.out.2, if_pos h5, h5] at hz
                rw [← hz]
                have h7 := HA7.out
                rw [h5] at h7
                exact ⟨rfl, O5, Q7, h7⟩
            · have hc1 : (s5.code == 0) = false := by simpa using h5
              have hc2 : (s5.code != 0) = true := by simpa using h5
              clear hA5 hAA hW5
              go_wp2_with fail
              go_ret
              have hz := HZ3.out
              rw [HS5.out.1, HS5.out.2, if_neg h5] at hz
              rw [← hz]
              exact ⟨rfl, O5, Q5, HAA.out⟩
          · have hc1 : (s3.code == 0) = false := by simpa using h3
            have hc2 : (s3.code != 0) = true := by simpa using h3
            clear hA3 hW3
            go_wp2_with fail
            go_ret
            have hz := HZ.out
            rw [if_neg (by simp [hc]), if_neg (by omega), if_neg (by have := HTV.out; omega)] at hz
            have hw : wantS s = true := by unfold wantS; rw [hq]
            simp only [hw, if_true] at hz
            rw [show s.first + (s.L.length : Int) = TV by have := HTV.out; omega, HR3.out, if_pos h3] at hz
            rw [← hz]
            exact ⟨rfl, O3, Q3, HAT3.out⟩
        | some q =>
          rw [hq] at hopn
          obtain ⟨o, rv, rfl, hBo, hqo, hro, hqr⟩ := hopn
          have hLok := hok hc
          have hqk := hLok.opn q hq
          have hqf := hqk.fu
          by_cases hfu : (16 : Int) ≤ (q.fu : Int)
          · go_enter Tryz.func14, Tryz.ntmps14
            go_wp2_with fail
            refine (HLAST.out _ (Below.refl _ _)).mono ?_
            rintro e w1 ⟨rfl, hb1⟩
            have hW1 := hW.below hb1
            obtain ⟨e0, e1, e2, e3, e4, e5, e6⟩ := blk7 hW1.blk
            have hBo1 := blk_keep (O := fun _ => False) hBo (Keeps.of_below hb1) (fun h => h)
            obtain ⟨d0, d1, d2, d3, _, _⟩ := openV_at hBo1
            rw [hc] at e6
            clear hW1 hBo hBo1 hro hqr
            go_wp2_with fail
            refine (HLAST.out _ hb1).mono ?_
            rintro e w2 ⟨rfl, hb2⟩
            have hA2 := ((LogAt.refl hWis hD hO).below hb1).below hb2
            have hbeg := begin_any O Q g p s st R i TV w2 hA2.wal hc hA2.disk hA2.olt hF (by omega) hR (fun q' hq' => by rw [hq] at hq'; cases hq'; exact ⟨hqk.n0, hqk.n1⟩) hLok.next.1 (by have := hLok.next.2; omega) (by have := HTV.out; omega) (by have := HTV.out; omega) (by have := hLok.old; omega)
            obtain ⟨r3, hr3⟩ : ∃ r3, beS s st TV = r3 := ⟨_, rfl⟩
            rw [hr3] at hbeg
            have HR3 := Lib.hid hr3
            have HBEG := Lib.hid hbeg
            have HA2 := Lib.hid hA2
            obtain ⟨s3, st3⟩ := r3
            clear hr3 hbeg hA2
            go_wp2_with fail
            refine HBEG.out.mono ?_
            rintro e w3 ⟨rfl, O3, Q3, hA3⟩
            have HAT3 := Lib.hid (HA2.out.trans hA3)
            obtain ⟨ov3, lv3, oldv3, hW3⟩ := hA3.wal
            obtain ⟨j0, j1, j2, j3, j4, j5, j6⟩ := blk7 hW3.blk
            by_cases h3 : s3.code = 0
            · rw [h3] at j6
              have HC3 := Lib.hid h3
              clear hA3 hW3
              have hz := HZ.out
              rw [if_neg (by simp [hc]), if_neg (by omega), if_neg (by have := HTV.out; omega)] at hz
              have hw : wantS s = true := by unfold wantS; rw [hq]; exact decide_eq_true (by omega)
              simp only [hw, if_true] at hz
              rw [show s.first + (s.L.length : Int) = TV by have := HTV.out; omega, HR3.out, if_neg (by simp [h3])] at hz
              have HZ3 := Lib.hid hz
              obtain ⟨q3, i3, hq3, hok3, hf3, hi3⟩ := beS_opn HR3.out h3 hLok.next.1 (by have := hLok.next.2; omega) (by have := HTV.out; omega) hF
              have HQ3 := Lib.hid (And.intro hq3 hok3)
              have HFI := Lib.hid (And.intro hf3 hi3)
              clear hz hq3 hok3 hf3 hi3
              go_wp2_with fail
              have HLS := Lib.hid (show s3.L.length ≤ s.L.length from beS_len HR3.out)
              -- the tail
              have h3c : s3.code = 0 := HC3.out
              have hI3 : Ints w3 .u8 (.slice ba b.length bc) b := ints_kept3 hI HAT3.out.keep hbo
              refine (putbytes_nil _ b w3 hI3 (by omega)).mono ?_
              rintro e w4 ⟨v4, rfl, hO4, hb4⟩
              have hA4 := HAT3.out.below hb4
              have hten := putU_ten (n := b.length) (by omega)
              have hI4 : Ints w4 .u8 v4 (putU b.length ++ b) := Ints.own hO4 (by rw [List.length_append]; omega)
              have hwr := write_any O3 Q3 g p s3 q3 st3 R i3 v4 (putU b.length ++ b) w4 hA4.wal HQ3.out.1 h3c hA4.disk hA4.olt HFI.out.1 (by have := HFI.out.2; omega) hR hI4 (fun x hx => (List.mem_append.1 hx).elim (fun h => putU_by8 (by omega) x h) (fun h => hb x h)) HQ3.out.2.by8 (by simp [putU_ne]) (by rw [List.length_append]; omega) (by have := HQ3.out.2.rest; omega) (by have := HQ3.out.2.fu; omega) HQ3.out.2.n0 HQ3.out.2.n1
              obtain ⟨s5, hs5⟩ : ∃ s5, (wrS s3 st3 (putU b.length ++ b)).1 = s5 := ⟨_, rfl⟩
              obtain ⟨st5, hst5⟩ : ∃ st5, (wrS s3 st3 (putU b.length ++ b)).2 = st5 := ⟨_, rfl⟩
              rw [hs5, hst5] at hwr
              have HWR := Lib.hid hwr
              have HS5 := Lib.hid (And.intro hs5 hst5)
              have HLL := Lib.hid (show s5.L.length ≤ s.L.length from by rw [← hs5, (wrS_same _ _ _).2.2.2]; exact HLS.out)
              have HA4 := Lib.hid hA4
              clear hwr hs5 hst5 hA4 hI3 hI4 hO4 hb4 h3c
              go_wp2_with fail
              refine HWR.out.mono ?_
              rintro e w5 ⟨rfl, O5, Q5, hA5⟩
              have hAA := HA4.out.trans hA5
              obtain ⟨ov5, lv5, oldv5, hW5⟩ := hA5.wal
              obtain ⟨k0, k1, k2, k3, k4, k5, k6⟩ := blk7 hW5.blk
              have HAA := Lib.hid hAA
              by_cases h5 : s5.code = 0
              · have hI5 : Ints w5 .u8 (.slice ba b.length bc) b := ints_kept3 hI hAA.keep hbo
                have HCL := Lib.hid (show ∀ w', Below w5.heap.size w5 w' → Calls Tryz.prog 36 #[.slice ba b.length bc] w' fun e w2 => ∃ v', e = .returned v' ∧ Own w2 w'.heap.size v' b ∧ Below w'.heap.size w' w2 from fun w' hb' => clone_any _ b w' (hI5.below hb'))
                have HW5 := Lib.hid hW5
                obtain ⟨vs5, hrec5⟩ := hW5.recs
                obtain ⟨la5, lc5, rfl, _, _⟩ := hrec5.row.slice
                rw [h5] at k6
                have hls : s5.L.length ≤ s.L.length := HLL.out
                have HPU := Lib.hid (show ∀ w6 v6, Own w6 w5.heap.size v6 b → Below w5.heap.size w5 w6 → _ from fun w6 v6 hO6 hb6 => l_push hAA hW5 hrec5 rfl hO6 hb6 (by omega) (by have := hrec5.len; have := hLok.len; omega))
                have hgl5 : g < w5.heap.size := Blk.lt hW5.blk
                clear hA5 hAA hW5 hI5 hrec5
                go_wp2_with fail
                go_region_law
                  (first
                    | (go_simp
                       go_at_call 36
                       refine (HCL.out _ (Below.refl _ _).drew).mono ?_
                       rintro e w6 ⟨v6, rfl, hO6, hb6⟩
                       have hb6' : Below w5.heap.size w5 w6 := ((Below.refl w5.heap.size w5).drew).trans hb6
                       obtain ⟨a6, c6, rfl⟩ := (Ints.own hO6 (by omega)).form
                       have g3 := (hb6'.cell (p := ⟨g, 3, none⟩) hgl5).trans k3
                       have g3a : ∀ x : Obj, (w6.alloc x).cell? ⟨g, 3, none⟩ = some (.slice la5 vs5.length lc5) := fun x => (((Below.refl w6.heap.size w6).alloc (Nat.le_refl _) x).cell (p := ⟨g, 3, none⟩) (Nat.lt_of_lt_of_le hgl5 hb6'.size)).trans g3
                       have HO6 := Lib.hid (And.intro hO6 hb6')
                       clear hO6 hb6 hb6')
                    | (obtain ⟨a1, k1, w7, hrun1, hb7, Q7, hA7⟩ := HPU.out _ _ HO6.out.1 HO6.out.2
                       refine step_append_off rfl (.tmp 60) (.tmp 63) 72 rfl _ _ w7 ⟨w6.heap.size, 0, none⟩ 1 1 rfl rfl hrun1 ?_
                       obtain ⟨_, _, _, m3, _, _, m6⟩ := blk7 hb7
                       obtain ⟨_, _, _, n3, _, _, _⟩ := free7 hb7
                       rw [h5] at m6
                       have HA7 := Lib.hid hA7
                       clear hrun1 hb7 hA7)
                    | fail "no")
                all_goals
                  go_wp2_with fail
                  go_ret
                  have hz := HZ3.out
                  rw [HS5.out.1, HS5.out.2, if_pos h5, h5] at hz
                  rw [← hz]
                  have h7 := HA7.out
                  rw [h5] at h7
                  exact ⟨rfl, O5, Q7, h7⟩
              · have hc1 : (s5.code == 0) = false := by simpa using h5
                have hc2 : (s5.code != 0) = true := by simpa using h5
                clear hA5 hAA hW5
                go_wp2_with fail
                go_ret
                have hz := HZ3.out
                rw [HS5.out.1, HS5.out.2, if_neg h5] at hz
                rw [← hz]
                exact ⟨rfl, O5, Q5, HAA.out⟩
            · have hc1 : (s3.code == 0) = false := by simpa using h3
              have hc2 : (s3.code != 0) = true := by simpa using h3
              clear hA3 hW3
              go_wp2_with fail
              go_ret
              have hz := HZ.out
              rw [if_neg (by simp [hc]), if_neg (by omega), if_neg (by have := HTV.out; omega)] at hz
              have hw : wantS s = true := by unfold wantS; rw [hq]; exact decide_eq_true (by omega)
              simp only [hw, if_true] at hz
              rw [show s.first + (s.L.length : Int) = TV by have := HTV.out; omega, HR3.out, if_pos h3] at hz
              rw [← hz]
              exact ⟨rfl, O3, Q3, HAT3.out⟩
          · have hfb : decide ((16 : Int) ≤ (q.fu : Int)) = false := decide_eq_false hfu
            go_enter Tryz.func14, Tryz.ntmps14
            go_wp2_with fail
            refine (HLAST.out _ (Below.refl _ _)).mono ?_
            rintro e w1 ⟨rfl, hb1⟩
            have hW1 := hW.below hb1
            obtain ⟨e0, e1, e2, e3, e4, e5, e6⟩ := blk7 hW1.blk
            have hBo1 := blk_keep (O := fun _ => False) hBo (Keeps.of_below hb1) (fun h => h)
            obtain ⟨d0, d1, d2, d3, _, _⟩ := openV_at hBo1
            rw [hc] at e6
            have HAT3 := Lib.hid ((LogAt.refl hWis hD hO).below hb1)
            have HC3 := Lib.hid hc
            have hz := HZ.out
            rw [if_neg (by simp [hc]), if_neg (by omega), if_neg (by have := HTV.out; omega)] at hz
            have hw : wantS s = false := by unfold wantS; rw [hq]; exact decide_eq_false (by omega)
            simp only [hw, Bool.false_eq_true, if_false] at hz
            rw [if_neg (by simp [hc])] at hz
            have HZ3 := Lib.hid hz
            have HQ3 := Lib.hid (And.intro hq hqk)
            have HFI := Lib.hid (And.intro hF (show i ≤ i + 1100 by omega))
            have HLS := Lib.hid (Nat.le_refl s.L.length)
            clear hW1 hBo hBo1 hro hqr hz hq hqk
            go_wp2_with fail
            -- the tail
            have h3c : s.code = 0 := HC3.out
            have hI3 : Ints w1 .u8 (.slice ba b.length bc) b := ints_kept3 hI HAT3.out.keep hbo
            refine (putbytes_nil _ b w1 hI3 (by omega)).mono ?_
            rintro e w4 ⟨v4, rfl, hO4, hb4⟩
            have hA4 := HAT3.out.below hb4
            have hten := putU_ten (n := b.length) (by omega)
            have hI4 : Ints w4 .u8 v4 (putU b.length ++ b) := Ints.own hO4 (by rw [List.length_append]; omega)
            have hwr := write_any O Q g p s q st R i v4 (putU b.length ++ b) w4 hA4.wal HQ3.out.1 h3c hA4.disk hA4.olt HFI.out.1 (by have := HFI.out.2; omega) hR hI4 (fun x hx => (List.mem_append.1 hx).elim (fun h => putU_by8 (by omega) x h) (fun h => hb x h)) HQ3.out.2.by8 (by simp [putU_ne]) (by rw [List.length_append]; omega) (by have := HQ3.out.2.rest; omega) (by have := HQ3.out.2.fu; omega) HQ3.out.2.n0 HQ3.out.2.n1
            obtain ⟨s5, hs5⟩ : ∃ s5, (wrS s st (putU b.length ++ b)).1 = s5 := ⟨_, rfl⟩
            obtain ⟨st5, hst5⟩ : ∃ st5, (wrS s st (putU b.length ++ b)).2 = st5 := ⟨_, rfl⟩
            rw [hs5, hst5] at hwr
            have HWR := Lib.hid hwr
            have HS5 := Lib.hid (And.intro hs5 hst5)
            have HLL := Lib.hid (show s5.L.length ≤ s.L.length from by rw [← hs5, (wrS_same _ _ _).2.2.2]; exact HLS.out)
            have HA4 := Lib.hid hA4
            clear hwr hs5 hst5 hA4 hI3 hI4 hO4 hb4 h3c
            go_wp2_with fail
            refine HWR.out.mono ?_
            rintro e w5 ⟨rfl, O5, Q5, hA5⟩
            have hAA := HA4.out.trans hA5
            obtain ⟨ov5, lv5, oldv5, hW5⟩ := hA5.wal
            obtain ⟨k0, k1, k2, k3, k4, k5, k6⟩ := blk7 hW5.blk
            have HAA := Lib.hid hAA
            by_cases h5 : s5.code = 0
            · have hI5 : Ints w5 .u8 (.slice ba b.length bc) b := ints_kept3 hI hAA.keep hbo
              have HCL := Lib.hid (show ∀ w', Below w5.heap.size w5 w' → Calls Tryz.prog 36 #[.slice ba b.length bc] w' fun e w2 => ∃ v', e = .returned v' ∧ Own w2 w'.heap.size v' b ∧ Below w'.heap.size w' w2 from fun w' hb' => clone_any _ b w' (hI5.below hb'))
              have HW5 := Lib.hid hW5
              obtain ⟨vs5, hrec5⟩ := hW5.recs
              obtain ⟨la5, lc5, rfl, _, _⟩ := hrec5.row.slice
              rw [h5] at k6
              have hls : s5.L.length ≤ s.L.length := HLL.out
              have HPU := Lib.hid (show ∀ w6 v6, Own w6 w5.heap.size v6 b → Below w5.heap.size w5 w6 → _ from fun w6 v6 hO6 hb6 => l_push hAA hW5 hrec5 rfl hO6 hb6 (by omega) (by have := hrec5.len; have := hLok.len; omega))
              have hgl5 : g < w5.heap.size := Blk.lt hW5.blk
              clear hA5 hAA hW5 hI5 hrec5
              go_wp2_with fail
              go_region_law
                (first
                  | (go_simp
                     go_at_call 36
                     refine (HCL.out _ (Below.refl _ _).drew).mono ?_
                     rintro e w6 ⟨v6, rfl, hO6, hb6⟩
                     have hb6' : Below w5.heap.size w5 w6 := ((Below.refl w5.heap.size w5).drew).trans hb6
                     obtain ⟨a6, c6, rfl⟩ := (Ints.own hO6 (by omega)).form
                     have g3 := (hb6'.cell (p := ⟨g, 3, none⟩) hgl5).trans k3
                     have g3a : ∀ x : Obj, (w6.alloc x).cell? ⟨g, 3, none⟩ = some (.slice la5 vs5.length lc5) := fun x => (((Below.refl w6.heap.size w6).alloc (Nat.le_refl _) x).cell (p := ⟨g, 3, none⟩) (Nat.lt_of_lt_of_le hgl5 hb6'.size)).trans g3
                     have HO6 := Lib.hid (And.intro hO6 hb6')
                     clear hO6 hb6 hb6')
                  | (obtain ⟨a1, k1, w7, hrun1, hb7, Q7, hA7⟩ := HPU.out _ _ HO6.out.1 HO6.out.2
                     refine step_append_off rfl (.tmp 60) (.tmp 63) 72 rfl _ _ w7 ⟨w6.heap.size, 0, none⟩ 1 1 rfl rfl hrun1 ?_
                     obtain ⟨_, _, _, m3, _, _, m6⟩ := blk7 hb7
                     obtain ⟨_, _, _, n3, _, _, _⟩ := free7 hb7
                     rw [h5] at m6
                     have HA7 := Lib.hid hA7
                     clear hrun1 hb7 hA7)
                  | fail "no")
              all_goals
                go_wp2_with fail
                go_ret
                have hz := HZ3.out
                rw [HS5.out.1, HS5.out.2, if_pos h5, h5] at hz
                rw [← hz]
                have h7 := HA7.out
                rw [h5] at h7
                exact ⟨rfl, O5, Q7, h7⟩
            · have hc1 : (s5.code == 0) = false := by simpa using h5
              have hc2 : (s5.code != 0) = true := by simpa using h5
              clear hA5 hAA hW5
              go_wp2_with fail
              go_ret
              have hz := HZ3.out
              rw [HS5.out.1, HS5.out.2, if_neg h5] at hz
              rw [← hz]
              exact ⟨rfl, O5, Q5, HAA.out⟩
  · have hc1 : (s.code == 0) = false := by simpa using hc
    have hc2 : (s.code != 0) = true := by simpa using hc
    go_enter Tryz.func14, Tryz.ntmps14
    go_wp2_with fail
    go_ret
    have hz := HZ.out
    rw [if_pos hc] at hz
    rw [← hz]
    exact ⟨rfl, O, Q, LogAt.refl hWis hD hO⟩
end Go.Proofs.YtcpkpljeimbdiaaGreat.W
namespace Go.Proofs.YtcpkpljeimbdiaaGreat.W
open Go.RowKit
open Aid K
set_option linter.unusedSimpArgs false
set_option linter.unusedVariables false
theorem l_cut {O Q O5 Q5 : Nat → Prop} {w w5 : World} {g p : Nat} {s : LSt} {st : DSt} {ov oldv lv lv' : Value} {vs vs' : List Value} {L' : List (List Int)} (hA : LogAt O Q w g p s st O5 Q5 w5) (hW : WalIn O5 Q5 w5 g p s ov lv oldv) (hR : Recs (fun k => O5 k ∨ Q5 k) w5 lv s.L vs)
    (hlen : vs'.length = L'.length) (hrow : OffRow w5 49 1 lv' vs'.length vs') (hb : ∀ k, lv'.ownBlock = some k → lv.ownBlock = some k) (hsub : ∀ (j : Nat) (v : Value) (l : List Int), vs'[j]? = some v → L'[j]? = some l → ∃ j' : Nat, vs[j']? = some v ∧ s.L[j']? = some l) :
    ∃ Q7, LogAt O Q w g p { s with L := L' } st O5 Q7 (w5.setCell ⟨g, 3, none⟩ lv') ∧ WalIn O5 Q7 (w5.setCell ⟨g, 3, none⟩ lv') g p { s with L := L' } ov lv' oldv := by
  obtain ⟨hnew, hKn⟩ := hW.l_new (vs' := vs') (L' := L') hA.olt (Keeps.refl _ _) hlen hrow (fun k hk => .inl (hb k hk)) (fun j v l hv hl => by
    obtain ⟨j', h1, h2⟩ := hsub j v l hv hl
    exact hR.ints j' v l h1 h2)
  refine ⟨_, hA.trans ⟨⟨_, _, _, hnew⟩, hA.disk.keep hKn (fun k hk hq => hW.apart k hq hk), fun k hk => by have := hA.olt k hk; have := hKn.size; omega, fun k hk => ?_, keeps_mono hKn (fun k hk => .inr hk)⟩, hnew⟩
  rcases hk with hk | hk | hk
  · exact .inl (.inl hk)
  · exact .inl (.inr hk)
  · exact .inl (.inr (hW.ql k (hb k hk)))
theorem l_take {O Q O5 Q5 : Nat → Prop} {w w5 : World} {g p : Nat} {s : LSt} {st : DSt} {ov oldv : Value} {la : Option Addr} {n lc : Nat} {vs : List Value} (hA : LogAt O Q w g p s st O5 Q5 w5) (hW : WalIn O5 Q5 w5 g p s ov (.slice la n lc) oldv) (hR : Recs (fun k => O5 k ∨ Q5 k) w5 (.slice la n lc) s.L vs) (hn : n = vs.length) {j : Nat} (hj : j ≤ n) :
    ∃ Q7, LogAt O Q w g p { s with L := s.L.take j } st O5 Q7 (w5.setCell ⟨g, 3, none⟩ (.slice la j lc)) ∧ WalIn O5 Q7 (w5.setCell ⟨g, 3, none⟩ (.slice la j lc)) g p { s with L := s.L.take j } ov (.slice la j lc) oldv := by
  subst hn
  have ht := OffRow.take hR.row hj
  rw [Nat.mul_one] at ht
  have hl : (vs.take j).length = j := by rw [List.length_take]; omega
  refine l_cut (vs' := vs.take j) hA hW hR (by rw [hl, List.length_take, ← hR.len]; omega) (by rw [hl]; exact ht) (fun k hk => ?_) (fun i v l hv hl => ?_)
  · cases la with
    | none => exact hk
    | some a => exact hk
  · rw [List.getElem?_take] at hv hl
    split at hv
    · rename_i hi
      rw [if_pos hi] at hl
      exact ⟨i, hv, hl⟩
    · cases hv
theorem l_drop {O Q O5 Q5 : Nat → Prop} {w w5 : World} {g p : Nat} {s : LSt} {st : DSt} {ov oldv : Value} {la : Option Addr} {n lc : Nat} {vs : List Value} (hA : LogAt O Q w g p s st O5 Q5 w5) (hW : WalIn O5 Q5 w5 g p s ov (.slice la n lc) oldv) (hR : Recs (fun k => O5 k ∨ Q5 k) w5 (.slice la n lc) s.L vs) (hn : n = vs.length) {j : Nat} (hj : j ≤ n) :
    ∃ Q7, LogAt O Q w g p { s with L := s.L.drop j } st O5 Q7 (w5.setCell ⟨g, 3, none⟩ (.slice (la.map fun x => x.add j) (n - j) (lc - j))) ∧ WalIn O5 Q7 (w5.setCell ⟨g, 3, none⟩ (.slice (la.map fun x => x.add j) (n - j) (lc - j))) g p { s with L := s.L.drop j } ov (.slice (la.map fun x => x.add j) (n - j) (lc - j)) oldv := by
  subst hn
  have ht := OffRow.drop hR.row hj
  rw [Nat.mul_one] at ht
  have hl : (vs.drop j).length = vs.length - j := by rw [List.length_drop]
  refine l_cut (vs' := vs.drop j) hA hW hR (by rw [hl, List.length_drop, ← hR.len]) (by rw [hl]; exact ht) (fun k hk => ?_) (fun i v l hv hl => ?_)
  · cases la with
    | none => cases hk
    | some a =>
      have e1 : some (a.add j).block = some k := hk
      have e2 : (a.add j).block = a.block := by unfold Addr.add; split <;> rfl
      rw [e2] at e1
      exact e1
  · rw [List.getElem?_drop] at hv hl
    exact ⟨_, hv, hl⟩
theorem l_none {O Q O5 Q5 : Nat → Prop} {w w5 : World} {g p : Nat} {s : LSt} {st : DSt} {ov oldv : Value} {la : Option Addr} {n lc : Nat} {vs : List Value} (hA : LogAt O Q w g p s st O5 Q5 w5) (hW : WalIn O5 Q5 w5 g p s ov (.slice la n lc) oldv) (hR : Recs (fun k => O5 k ∨ Q5 k) w5 (.slice la n lc) s.L vs) (hz : la = none → lc = 0) :
    ∃ Q7, LogAt O Q w g p { s with L := [] } st O5 Q7 (w5.setCell ⟨g, 3, none⟩ (.slice la 0 0)) ∧ WalIn O5 Q7 (w5.setCell ⟨g, 3, none⟩ (.slice la 0 0)) g p { s with L := [] } ov (.slice la 0 0) oldv := by
  refine l_cut (vs' := []) hA hW hR rfl ?_ (fun k hk => ?_) (fun i v l hv hl => by cases hv)
  · obtain ⟨_, ⟨h2, h3⟩ | ⟨b, off, cap, cur, h2, hb, h3, h4, h5, h6⟩⟩ := hR.row
    · cases h2; exact ⟨rfl, .inl ⟨rfl, rfl⟩⟩
    · cases h2; exact ⟨rfl, .inr ⟨b, off, 0, cur, rfl, hb, Nat.le_refl _, Nat.zero_le _, by omega, fun j u hj => by cases hj⟩⟩
  · cases la with
    | none => exact hk
    | some a => exact hk
theorem old_drop {O Q O5 Q5 : Nat → Prop} {w w5 : World} {g p : Nat} {s : LSt} {st : DSt} {ov lv : Value} {oa : Option Addr} {n oc : Nat} (hA : LogAt O Q w g p s st O5 Q5 w5) (hW : WalIn O5 Q5 w5 g p s ov lv (.slice oa n oc)) (hn : n = s.old.length) (h1 : 1 ≤ n) :
    ∃ Q7, LogAt O Q w g p { s with old := s.old.tail } st O5 Q7 (w5.setCell ⟨g, 4, none⟩ (.slice (oa.map fun x => x.add 2) (n - 1) (oc - 1))) ∧ WalIn O5 Q7 (w5.setCell ⟨g, 4, none⟩ (.slice (oa.map fun x => x.add 2) (n - 1) (oc - 1))) g p { s with old := s.old.tail } ov lv (.slice (oa.map fun x => x.add 2) (n - 1) (oc - 1)) := by
  have hd := hW.segs.drop (k := 1) hn h1
  rw [Nat.one_mul, List.drop_one] at hd
  have hb : ∀ k, (Value.slice (oa.map fun x => x.add 2) (n - 1) (oc - 1)).ownBlock = some k → (Value.slice oa n oc).ownBlock = some k := fun k hk => by
    cases oa with
    | none => cases hk
    | some a =>
      have e1 : some (a.add 2).block = some k := hk
      have e2 : (a.add 2).block = a.block := by unfold Addr.add; split <;> rfl
      rw [e2] at e1
      exact e1
  obtain ⟨hnew, hKn⟩ := hW.old_new hA.olt (Keeps.refl _ _) hd (fun k hk => .inl (hb k hk))
  refine ⟨_, hA.trans ⟨⟨_, _, _, hnew⟩, hA.disk.keep hKn (fun k hk hq => hW.apart k hq hk), fun k hk => by have := hA.olt k hk; have := hKn.size; omega, fun k hk => ?_, keeps_mono hKn (fun k hk => .inr hk)⟩, hnew⟩
  rcases hk with hk | hk | hk
  · exact .inl (.inl hk)
  · exact .inl (.inr hk)
  · exact .inl (.inr (hW.qs k (hb k hk)))
theorem LogAt.once {O Q O4 Q4 O' : Nat → Prop} {w w5 wz w9 : World} {g p : Nat} {s : LSt} {st st' : DSt} {ov lv oldv : Value} {E : Int} (hA : LogAt O Q w g p s st O4 Q4 w5) (hW : WalIn O4 Q4 w5 g p s ov lv oldv) (hK : Keeps O4 w5 wz) (hD' : DiskIs O' wz p st') (hO' : ∀ k, O' k → O4 k ∨ (w5.heap.size ≤ k ∧ k < wz.heap.size))
    (hB9 : Blk w9 g 75 (walV ov p s.first lv oldv s.next E)) (hK9 : Keeps (fun k => k = g) wz w9) (hs9 : w9.heap.size = wz.heap.size) :
    LogAt O Q w g p { s with code := E } st' O' Q4 w9 ∧ WalIn O' Q4 w9 g p { s with code := E } ov lv oldv := by
  have hKK : Keeps (fun k => O4 k ∨ k = g) w5 w9 := (keeps_mono hK (fun k hk => .inl hk)).trans hK9 (fun k hk => .inl (.inr hk))
  have hsz := hK.size
  have hWn := hW.calls (O' := O') (s' := { s with code := E }) hKK (fun k hk => hk) (fun k hk => by
    rcases hO' k hk with h1 | h1
    · exact .inl h1
    · exact .inr h1.1) hB9 rfl rfl rfl
  refine ⟨hA.trans ⟨⟨_, _, _, hWn⟩, hD'.keep hK9 (fun k hk e => ?_), fun k hk => ?_, fun k hk => ?_, keeps_mono hKK (fun k hk => ?_)⟩, hWn⟩
  · subst e
    rcases hO' k hk with h1 | h1
    · exact hW.apart k hW.qg h1
    · have := hW.lt k hW.qg; omega
  · rcases hO' k hk with h1 | h1
    · have := hA.olt k h1; omega
    · omega
  · rcases hk with hk | hk
    · rcases hO' k hk with h1 | h1
      · exact .inl (.inl h1)
      · exact .inr h1.1
    · exact .inl (.inr hk)
  · rcases hk with hk | hk
    · exact .inl hk
    · exact .inr (hk ▸ hW.qg)
end Go.Proofs.YtcpkpljeimbdiaaGreat.W
namespace Go.Proofs.YtcpkpljeimbdiaaGreat.W
open Go.RowKit
open Aid K
set_option linter.unusedSimpArgs false
set_option linter.unusedVariables false
set_option maxRecDepth 100000 in
set_option maxHeartbeats 2000000 in
theorem truncate_any (O Q : Nat → Prop) (g p : Nat) (s : LSt) (st : DSt) (R : Int) (i k : Nat) (x : Int) (w : World) (hW : WalIs O Q w g p s) (hD : DiskIs O w p st) (hO : ∀ k, O k → k < w.heap.size)
    (hF : FitS st R i) (hi : i + 2200 ≤ 4398046511103) (hR : R ≤ 9223372036854775807) (hok : s.code = 0 → LogOk s (k + 1)) (hf0 : 0 ≤ s.first) (hft : s.first + s.L.length ≤ 4611686018427387904) (hx0 : 0 ≤ x) (hx1 : x < 18446744073709551616) :
    Calls Tryz.prog 41 #[.pointer (some ⟨g, 0, none⟩), .int .u64 x] w (LogEnd O Q g p (trS s st x).2.2 (trS s st x).1 (trS s st x).2.1 w) := by
  have hWis := hW
  obtain ⟨ov, lv, oldv, hW⟩ := hW
  obtain ⟨c0, c1, c2, c3, c4, c5, c6⟩ := blk7 hW.blk
  obtain ⟨vs, hrec⟩ := hW.recs
  obtain ⟨la, lc, hlv, _, _⟩ := hrec.row.slice
  have hlen := hrec.len
  subst hlv
  obtain ⟨Z, hZ⟩ : ∃ Z, trS s st x = Z := ⟨_, rfl⟩
  rw [hZ]
  unfold trS at hZ
  have HZ := Lib.hid hZ
  clear hZ
  have HREF := Lib.hid (LogAt.refl hWis hD hO)
  obtain ⟨N, hN⟩ : ∃ N, vs.length = N := ⟨_, rfl⟩
  rw [hN] at c3
  have hwN : IntKind.u64.wrap (N : Int) = (N : Int) := by rw [IntKind.wrap_u64]; omega
  by_cases hc : s.code = 0
  · rw [hc] at c6
    by_cases hlt : x < s.first
    · go_enter Tryz.func41, Tryz.ntmps41
      go_wp2_with fail
      go_quiet (fail)
      go_wp2_with fail
      go_ret
      have hz := HZ.out
      rw [if_neg (by simp [hc]), if_pos (.inl hlt)] at hz
      rw [← hz]
      exact ⟨rfl, O, Q, HREF.out.below (below_drewN (Below.refl _ _) nq)⟩
    · obtain ⟨j, hj⟩ : ∃ j : Nat, x = s.first + j := ⟨(x - s.first).toNat, by omega⟩
      have hsub : IntKind.u64.wrap (x - s.first) = (j : Int) := by rw [IntKind.wrap_u64]; omega
      have hdec : decide (x < s.first) = false := decide_eq_false hlt
      have HJ := Lib.hid hj
      clear hj
      by_cases hgt : (N : Int) < (j : Int)
      · go_enter Tryz.func41, Tryz.ntmps41
        go_wp2_with fail
        go_quiet (fail)
        go_wp2_with fail
        go_ret
        have hz := HZ.out
        rw [if_neg (by simp [hc]), if_pos (.inr (by have := HJ.out; omega))] at hz
        rw [← hz]
        exact ⟨rfl, O, Q, HREF.out.below (below_drewN (Below.refl _ _) nq)⟩
      · have hdec2 : decide ((N : Int) < (j : Int)) = false := decide_eq_false hgt
        by_cases heq : j = N
        · subst heq
          go_enter Tryz.func41, Tryz.ntmps41
          go_wp2_with fail
          go_quiet (fail)
          go_wp2_with fail
          obtain ⟨wa, hwa⟩ : ∃ wa, w.drewN nq = wa := ⟨_, rfl⟩
          have hbwa : Below w.heap.size w wa := by rw [← hwa]; exact below_drewN (Below.refl _ _) nq
          rw [hwa]
          obtain ⟨e0, e1, e2, e3, e4, e5, e6⟩ := blk7 (hW.below hbwa).blk
          rw [hN] at e3
          clear hwa
          go_quiet (fail)
          go_wp2_with fail
          go_ret
          have hz := HZ.out
          rw [if_neg (by simp [hc]), if_neg (by have := HJ.out; omega), if_pos (by have := HJ.out; omega)] at hz
          rw [← hz]
          exact ⟨rfl, O, Q, (HREF.out.below hbwa).below (below_drewN (Below.refl _ _) nq)⟩
        · have hne : ((j : Int) == (N : Int)) = false := by rw [beq_eq_false_iff_ne]; omega
          have hLok := hok hc
          go_enter Tryz.func41, Tryz.ntmps41
          go_wp2_with fail
          go_quiet (fail)
          go_wp2_with fail
          obtain ⟨wa, hwa⟩ : ∃ wa, w.drewN nq = wa := ⟨_, rfl⟩
          have hbwa : Below w.heap.size w wa := by rw [← hwa]; exact below_drewN (Below.refl _ _) nq
          rw [hwa]
          obtain ⟨e0, e1, e2, e3, e4, e5, e6⟩ := blk7 (hW.below hbwa).blk
          rw [hN] at e3
          clear hwa
          go_quiet (fail)
          go_wp2_with fail
          obtain ⟨w2, hw2⟩ : ∃ w2, wa.drewN nq = w2 := ⟨_, rfl⟩
          have hbw2 : Below wa.heap.size wa w2 := by rw [← hw2]; exact below_drewN (Below.refl _ _) nq
          rw [hw2]
          have hA2 := (HREF.out.below hbwa).below hbw2
          clear hw2
          have hbeg := begin_any O Q g p s st R i x w2 hA2.wal hc hA2.disk hA2.olt hF (by omega) hR (fun q' hq' => ⟨(hLok.opn q' hq').n0, (hLok.opn q' hq').n1⟩) hLok.next.1 (by have := hLok.next.2; omega) hx0 hx1 (by have := hLok.old; omega)
          obtain ⟨r3, hr3⟩ : ∃ r3, beS s st x = r3 := ⟨_, rfl⟩
          rw [hr3] at hbeg
          have hsame := beS_same s st x
          rw [hr3] at hsame
          obtain ⟨s3, st3⟩ := r3
          have hsf : s3.first = s.first := hsame.1
          have hsl : s3.L = s.L := hsame.2
          have hz := HZ.out
          rw [if_neg (by simp [hc]), if_neg (by have := HJ.out; omega), if_neg (by have := HJ.out; omega), hr3] at hz
          simp only at hz
          have HZ3 := Lib.hid hz
          have HA2 := Lib.hid hA2
          have HSL := Lib.hid hsl
          clear hz hr3 hA2 hsame hsl
          refine hbeg.mono ?_
          rintro e w3 ⟨rfl, O3, Q3, hA3⟩
          have hA30 := HA2.out.trans hA3
          obtain ⟨ov3, lv3, oldv3, hW3⟩ := hA3.wal
          obtain ⟨vs3, hrec3⟩ := hW3.recs
          obtain ⟨la3, lc3, rfl, hnc3, _⟩ := hrec3.row.slice
          have hlen3 : vs3.length = N := by have := hrec3.len; rw [this, HSL.out, ← hlen, hN]
          obtain ⟨k0, k1, k2, k3, k4, k5, k6⟩ := blk7 hW3.blk
          obtain ⟨f0, f1, f2, f3, f4, f5, f6⟩ := free7 hW3.blk
          rw [hlen3] at k3 hnc3
          simp only [hsf] at k2
          by_cases h3 : s3.code = 0
          · have hjN : (j : Int) ≤ (N : Int) := by omega
            have hj0 : (0 : Int) ≤ (j : Int) := by omega
            have hjn : j ≤ N := by omega
            have hjc : (j : Int) ≤ (lc3 : Int) := by omega
            have hjc' : j ≤ lc3 := by omega
            have hdr : Below w3.heap.size w3 w3.drew := (Below.refl _ _).drew
            obtain ⟨Q7, hA7, hW7⟩ := l_take (hA30.below hdr) (hW3.below hdr) (hrec3.keep (P := fun _ => False) (Keeps.of_below hdr) (fun _ _ h => h) (fun _ h => h.elim) (fun k hk => .inl hk)) rfl (j := j) (by rw [hlen3]; exact hjn)
            have k6' : (w3.drew.setCell ⟨g, 3, none⟩ (.slice la3 j lc3)).cell? ⟨g, 6, none⟩ = some (.int .i64 0) := by
              have := hW7.blk.cell 6
              rw [← h3]
              exact this
            rw [h3] at k6
            have HA7 := Lib.hid hA7
            clear hA3 hA30 hW3 hrec3 hA7 hW7
            go_wp2_with fail
            refine' wp_cut0 _ _ ?reg ?imp
            case reg =>
              go_region_law (fail)
              all_goals
                refine ⟨rfl, ?_, ?_⟩
                · exact Eq.refl _
                · exact Eq.refl _
            case imp =>
              go_wp2_with fail
              go_ret
              have hz := HZ3.out
              have hjj : (x - s.first).toNat = j := by have := HJ.out; omega
              rw [h3, if_pos rfl, hjj] at hz
              rw [← hz]
              have h7 := HA7.out
              rw [h3] at h7
              exact ⟨rfl, O3, Q7, h7⟩
          · have hc1 : (s3.code == 0) = false := by simpa using h3
            have hc2 : (s3.code != 0) = true := by simpa using h3
            have HA3 := Lib.hid hA30
            clear hA3 hA30 hW3 hrec3
            go_wp2_with fail
            go_ret
            have hz := HZ3.out
            rw [if_neg h3] at hz
            rw [← hz]
            exact ⟨rfl, O3, Q3, HA3.out⟩
  · have hc1 : (s.code == 0) = false := by simpa using hc
    have hc2 : (s.code != 0) = true := by simpa using hc
    go_enter Tryz.func41, Tryz.ntmps41
    go_wp2_with fail
    go_ret
    have hz := HZ.out
    rw [if_pos hc] at hz
    rw [← hz]
    exact ⟨rfl, O, Q, HREF.out⟩
end Go.Proofs.YtcpkpljeimbdiaaGreat.W
namespace Go.Proofs.YtcpkpljeimbdiaaGreat.W
open Go.RowKit
open Aid K
set_option linter.unusedSimpArgs false
set_option linter.unusedVariables false
def CoInv (O Q : Nat → Prop) (g p : Nat) (x R : Int) (I : Nat) (Y : LSt × DSt) (s0 : LSt) (w wr : World) : Prop :=
  ∃ f s st O' Q' i, LogAt O Q w g p s st O' Q' wr ∧ Y = frF f s st x ∧ s.code = 0 ∧ s.old.length ≤ f ∧ FitS st R i ∧ i + f ≤ I ∧ s.first = s0.first ∧ s.L = s0.L ∧ (∀ y ∈ s.old, 0 ≤ y.1 ∧ y.1 < 2305843009213693952)
def msrG (g : Nat) (wr : World) : Nat := match wr.cell? ⟨g, 4, none⟩ with | some (.slice _ n _) => n | _ => 0
theorem wrS_nu {s : LSt} {st : DSt} {b : List Int} {q q' : Opn} (hq : s.opn = some q) (h : (wrS s st b).1.opn = some q') : q'.nu = q.nu := by
  unfold wrS at h
  rw [hq] at h
  simp only [Option.some.injEq] at h
  rw [← h]
theorem beS_all {s s3 : LSt} {st st3 : DSt} {ix R : Int} {i k : Nat} (h : beS s st ix = (s3, st3)) (hL : LogOk s (k + 1)) (hF : FitS st R i) (h0 : 0 ≤ ix) (h1 : ix < 18446744073709551616) :
    ∃ i3, FitS st3 R i3 ∧ i3 ≤ i + 1100 ∧ (s3.first = s.first ∧ s3.L = s.L) ∧ (∀ q, s3.opn = some q → 0 ≤ q.nu ∧ q.nu < 2305843009213693952) ∧ (s3.old.length ≤ s.old.length + 1 ∧ ∀ y ∈ s3.old, 0 ≤ y.1 ∧ y.1 < 2305843009213693952) ∧ (s3.next = s.next ∨ s3.next = s.next + 1) := by
  have hsame := beS_same s st ix
  rw [h] at hsame
  unfold beS at h
  simp only at h
  have hs := syS_same s st
  have hf := syS_fit (s := s) hF
  obtain ⟨r, hr⟩ : ∃ r, syS s st = r := ⟨_, rfl⟩
  rw [hr] at h hs hf
  have hn := hL.next
  split at h
  · subst h
    exact ⟨_, hf, by omega, hsame, fun q hq => by rw [hs.2.2.2.2] at hq; exact ⟨(hL.opn q hq).n0, (hL.opn q hq).n1⟩, ⟨by rw [hs.2.1]; omega, by rw [hs.2.1]; exact hL.olds⟩, .inl hs.1⟩
  · have hten := putU_ten (n := ix.toNat) (by omega)
    have h4 := wrS_fit (s := { r.1 with opn := some ⟨r.1.next, ix, 0, []⟩, next := r.1.next + 1, old := r.1.old ++ [(r.1.next, ix)] }) (b := putU ix.toNat) hf (fun q hq => by cases hq; exact ⟨by simp, by simp⟩) (by omega)
    have h5 := wrS_same { r.1 with opn := some ⟨r.1.next, ix, 0, []⟩, next := r.1.next + 1, old := r.1.old ++ [(r.1.next, ix)] } r.2 (putU ix.toNat)
    have h6 : ∀ q, (wrS { r.1 with opn := some ⟨r.1.next, ix, 0, []⟩, next := r.1.next + 1, old := r.1.old ++ [(r.1.next, ix)] } r.2 (putU ix.toNat)).1.opn = some q → q.nu = r.1.next := fun q hq => wrS_nu (s := { r.1 with opn := some ⟨r.1.next, ix, 0, []⟩, next := r.1.next + 1, old := r.1.old ++ [(r.1.next, ix)] }) rfl hq
    rw [h] at h4 h5 h6
    refine ⟨_, h4, by omega, hsame, fun q hq => ?_, ⟨?_, fun y hy => ?_⟩, .inr ?_⟩
    · rw [h6 q hq, hs.1]; omega
    · rw [h5.2.1, List.length_append, hs.2.1]; exact Nat.le_refl _
    · rw [h5.2.1] at hy
      rcases List.mem_append.1 hy with hy | hy
      · rw [hs.2.1] at hy; exact hL.olds y hy
      · rw [List.mem_singleton] at hy
        rw [hy, hs.1]
        show 0 ≤ s.next ∧ s.next < _
        omega
    · rw [h5.1, hs.1]
set_option maxRecDepth 100000 in
set_option maxHeartbeats 2000000 in
theorem compact_any (O Q : Nat → Prop) (g p : Nat) (s : LSt) (st : DSt) (R : Int) (i k : Nat) (x : Int) (w : World) (hW : WalIs O Q w g p s) (hD : DiskIs O w p st) (hO : ∀ k, O k → k < w.heap.size)
    (hF : FitS st R i) (hi : i + s.old.length + 2200 ≤ 4398046511103) (hR : R ≤ 9223372036854775807) (hok : s.code = 0 → LogOk s (k + 1)) (hf0 : 0 ≤ s.first) (hft : s.first + s.L.length ≤ 4611686018427387904) (hx0 : 0 ≤ x) (hx1 : x < 18446744073709551616) :
    Calls Tryz.prog 42 #[.pointer (some ⟨g, 0, none⟩), .int .u64 x] w (LogEnd O Q g p (coS s st x).2.2 (coS s st x).1 (coS s st x).2.1 w) := by
  have hWis := hW
  obtain ⟨ov, lv, oldv, hW⟩ := hW
  obtain ⟨c0, c1, c2, c3, c4, c5, c6⟩ := blk7 hW.blk
  obtain ⟨vs, hrec⟩ := hW.recs
  obtain ⟨la, lc, hlv, _, _⟩ := hrec.row.slice
  have hlen := hrec.len
  subst hlv
  obtain ⟨Z, hZ⟩ : ∃ Z, coS s st x = Z := ⟨_, rfl⟩
  rw [hZ]
  unfold coS at hZ
  have HZ := Lib.hid hZ
  clear hZ
  have HREF := Lib.hid (LogAt.refl hWis hD hO)
  obtain ⟨N, hN⟩ : ∃ N, vs.length = N := ⟨_, rfl⟩
  rw [hN] at c3
  have hwN : IntKind.u64.wrap (N : Int) = (N : Int) := by rw [IntKind.wrap_u64]; omega
  have hlw := last_wrap (first := s.first) (n := vs.length) hf0 (by omega)
  obtain ⟨LV, hLV⟩ : ∃ LV, IntKind.u64.wrap (IntKind.u64.wrap (s.first + vs.length) - 1) = LV := ⟨_, rfl⟩
  obtain ⟨TV, hTV⟩ : ∃ TV, s.first + (vs.length : Int) = TV := ⟨_, rfl⟩
  have HLAST := Lib.hid (show ∀ w', Below w.heap.size w w' → Calls Tryz.prog 13 #[.pointer (some ⟨g, 0, none⟩)] w' fun e w2 => e = .returned (.int .u64 LV) ∧ Below w'.heap.size w' w2 from fun w' hb => by
    have := last_any g ov p s.first la vs.length lc oldv s.next s.code w' (hW.below hb).blk (by omega)
    rw [hLV] at this
    exact this)
  rw [hLV, hTV] at hlw
  have HTV := Lib.hid hTV
  clear hLV hTV
  by_cases hc : s.code = 0
  · rw [hc] at c6
    by_cases hle : x ≤ s.first
    · go_enter Tryz.func42, Tryz.ntmps42
      go_wp2_with fail
      go_ret
      have hz := HZ.out
      rw [if_neg (by simp [hc]), if_pos hle] at hz
      rw [← hz]
      exact ⟨rfl, O, Q, HREF.out⟩
    · obtain ⟨j, hj⟩ : ∃ j : Nat, x = s.first + j := ⟨(x - s.first).toNat, by omega⟩
      have hsub : IntKind.u64.wrap (x - s.first) = (j : Int) := by rw [IntKind.wrap_u64]; omega
      have hdec : decide (x ≤ s.first) = false := decide_eq_false hle
      have hj1 : 1 ≤ j := by omega
      have HJ := Lib.hid hj
      clear hj
      by_cases hgt : (N : Int) < (j : Int)
      · go_enter Tryz.func42, Tryz.ntmps42
        go_wp2_with fail
        go_quiet (fail)
        go_wp2_with fail
        go_ret
        have hz := HZ.out
        rw [if_neg (by simp [hc]), if_neg (by omega), if_pos (by have := HJ.out; omega)] at hz
        rw [← hz]
        exact ⟨rfl, O, Q, HREF.out.below (below_drewN (Below.refl _ _) nq)⟩
      · have hdec2 : decide ((N : Int) < (j : Int)) = false := decide_eq_false hgt
        have hLok := hok hc
        by_cases htop : x = TV
        · have htb : (x == TV) = true := by rw [beq_iff_eq]; exact htop
          have HTOP := Lib.hid htop
          clear htop
          go_enter Tryz.func42, Tryz.ntmps42
          go_wp2_with fail
          go_quiet (fail)
          go_wp2_with fail
          obtain ⟨wa, hwa⟩ : ∃ wa, w.drewN nq = wa := ⟨_, rfl⟩
          have hbwa : Below w.heap.size w wa := by rw [← hwa]; exact below_drewN (Below.refl _ _) nq
          rw [hwa]
          refine (HLAST.out _ hbwa).mono ?_
          rintro e wb ⟨rfl, hb1⟩
          have hA0 := (HREF.out.below hbwa).below hb1
          have hbeg := begin_any O Q g p s st R i x wb hA0.wal hc hA0.disk hA0.olt hF (by omega) hR (fun q' hq' => ⟨(hLok.opn q' hq').n0, (hLok.opn q' hq').n1⟩) hLok.next.1 (by have := hLok.next.2; omega) hx0 hx1 (by have := hLok.old; omega)
          obtain ⟨r3, hr3⟩ : ∃ r3, beS s st x = r3 := ⟨_, rfl⟩
          rw [hr3] at hbeg
          obtain ⟨s1, st1⟩ := r3
          obtain ⟨i1, q1, q2, q3, q4, q5, q6⟩ := beS_all hr3 hLok hF hx0 hx1
          have hz := HZ.out
          rw [if_neg (by simp [hc]), if_neg (by omega), if_neg (by have := HJ.out; omega)] at hz
          try simp only at hz
          have hne1 : x = s.first + (s.L.length : Int) := by have := HTV.out; have := HTOP.out; omega
          rw [if_pos hne1, hr3] at hz
          try simp only at hz
          have HZ1 := Lib.hid hz
          have HS1 := Lib.hid q3
          have HOL := Lib.hid q5
          have HNU := Lib.hid q4
          have HF1 := Lib.hid (And.intro q1 q2)
          have HA0 := Lib.hid hA0
          have HBEG := Lib.hid hbeg
          clear hz hA0 hb1 hbwa hwa c0 c1 c2 c3 c4 c5 c6 hW hrec hWis hD hO hF hbeg hr3 q1 q2 q3 q4 q5 q6 hne1
          go_wp2_with fail
          refine HBEG.out.mono ?_
          rintro e w1 ⟨rfl, O1, Q1, hA1⟩
          have HAT1 := Lib.hid (HA0.out.trans hA1)
          clear hA1
          go_wp2_with fail
          -- the sync
          have hsync := sync_log O1 Q1 g p s1 st1 R i1 w1 HAT1.out.wal HAT1.out.disk HAT1.out.olt HF1.out.1 (by have := HF1.out.2; omega) hR HNU.out
          obtain ⟨r2, hr2⟩ : ∃ r2, syS s1 st1 = r2 := ⟨_, rfl⟩
          have hsame2 := syS_same s1 st1
          have hfit2 := syS_fit (s := s1) HF1.out.1
          rw [hr2] at hsync hsame2 hfit2
          obtain ⟨s2, st2⟩ := r2
          obtain ⟨u1, u2, u3, u4, u5⟩ := hsame2
          simp only at u1 u2 u3 u4 u5 hsync hfit2
          have hz := HZ1.out
          rw [hr2] at hz
          try simp only at hz
          have HZ2 := Lib.hid hz
          have HL2 := Lib.hid (show s2.L = s.L from u4.trans HS1.out.2)
          have HL2f := Lib.hid (show s2.first = s.first from u3.trans HS1.out.1)
          have HO2 := Lib.hid (show ∀ y ∈ s2.old, 0 ≤ y.1 ∧ y.1 < 2305843009213693952 from by rw [u2]; exact HOL.out.2)
          have HO2l := Lib.hid (show s2.old.length ≤ s.old.length + 1 from by rw [u2]; exact HOL.out.1)
          have HFT2 := Lib.hid hfit2
          clear hz hr2 u1 u2 u3 u4 u5 hfit2
          refine hsync.mono ?_
          rintro e w2 ⟨rfl, O2, Q2, hA2⟩
          have HA2 := Lib.hid (HAT1.out.trans hA2)
          obtain ⟨ov2, lv2, oldv2, hW2⟩ := hA2.wal
          have k6 := (blk7 hW2.blk).2.2.2.2.2.2
          clear hA2 hW2 hsync
          by_cases h2 : s2.code = 0
          · have hst : CoInv O Q g p x R (i + s.old.length + 1200) (frF s2.old.length s2 st2 x) s2 w w2 := by
              have := HF1.out.2
              have := HO2l.out
              exact ⟨_, s2, st2, O2, Q2, _, HA2.out, rfl, h2, Nat.le_refl _, HFT2.out, by omega, rfl, rfl, HO2.out⟩
            have HST := Lib.hid hst
            rw [h2] at k6
            clear hst
            go_wp2_with fail
            go_loopw [] (fun wr => CoInv O Q g p x R (i + s.old.length + 1200) (frF s2.old.length s2 st2 x) s2 w wr) (fun wr => msrG g wr)
            case atStart => exact HST.out
            case round =>
              clear HST k6
              obtain ⟨f, s4, st4, O4, Q4, i4, hA4, hY, hc4, hf4, hF4, hi4, hs4f, hs4L, hold4⟩ := hrel
              have hA40 := hA4
              obtain ⟨ov4, lv4, oldv4, hW4⟩ := hA4.wal
              obtain ⟨vs4, hrec4⟩ := hW4.recs
              obtain ⟨la4, lc4, rfl, hlc4, _⟩ := hrec4.row.slice
              obtain ⟨oa4, oc4, rfl, hoc4, hoz4⟩ := OffRow.slice hW4.segs
              have hvN : vs4.length = N := by rw [hrec4.len, hs4L, HL2.out, ← hlen, hN]
              obtain ⟨k0, k1, k2, k3, k4, k5, k6⟩ := blk7 hW4.blk
              obtain ⟨f0, f1, f2, f3, f4, f5, f6⟩ := free7 hW4.blk
              rw [hvN] at k3 hlc4
              rw [hs4f, HL2f.out] at k2
              rw [hc4] at k6
              obtain ⟨ON, hON⟩ : ∃ ON, s4.old.length = ON := ⟨_, rfl⟩
              rw [hON] at k4 hoc4
              have HY := Lib.hid hY
              have HAwr := Lib.hid hA40
              have HWwr := Lib.hid hW4
              have HRC := Lib.hid hrec4
              have HC4 := Lib.hid hc4
              have HVN := Lib.hid hvN
              have HL4 := Lib.hid (show s4.L.length = N from by rw [← hvN, hrec4.len])
              have HF4 := Lib.hid (And.intro hF4 (And.intro hi4 hold4))
              have HS4 := Lib.hid (And.intro hs4f hs4L)
              have HON := Lib.hid hON
              have HFR := Lib.hid (show ∀ w', Below wr.heap.size wr w' → 1 ≤ s4.old.length → Calls Tryz.prog 59 #[.pointer (some ⟨g, 0, none⟩), .int .u64 x] w' fun e w2 => e = .returned (.bool (s4.old.tail.any fun s => decide (s.2 ≤ x))) ∧ Below w'.heap.size w' w2 from fun w' hb h1 => freed_any g ov4 p s4.first _ _ s4.next s4.code s4.old x w' (hW4.below hb).blk (hW4.below hb).segs h1 (by omega))
              clear hY hA4 hA40 hW4 hrec4 hc4 hvN hF4 hi4 hold4 hs4f hs4L hON
              by_cases hgt1 : (1 : Int) < (ON : Int)
              · obtain ⟨bb, hbb⟩ : ∃ bb, (s4.old.tail.any fun s => decide (s.2 ≤ x)) = bb := ⟨_, rfl⟩
                rw [hbb] at HFR
                have HBB := Lib.hid hbb
                clear hbb
                go_wp2_with fail
                refine (HFR.out _ (Below.refl _ _) (by have := HON.out; omega)).mono ?_
                rintro e w5 ⟨rfl, hb5⟩
                have hA5 := HAwr.out.below hb5
                have hW5 := HWwr.out.below hb5
                have hR5 := HRC.out.keep (P := fun _ => False) (Keeps.of_below hb5) (fun _ _ h => h) (fun _ h => h.elim) (fun k hk => .inl hk)
                obtain ⟨m0, m1, m2, m3, m4, m5, m6⟩ := blk7 hW5.blk
                obtain ⟨n0, n1, n2, n3, n4, n5, n6⟩ := free7 hW5.blk
                rw [HVN.out] at m3
                rw [HS4.out.1, HL2f.out] at m2
                rw [HC4.out] at m6
                rw [HON.out] at m4
                clear k0 k1 k2 k3 k4 k5 k6 f0 f1 f2 f3 f4 f5 f6
                have HAw5 := Lib.hid hA5
                have HWw5 := Lib.hid hW5
                have HRC := Lib.hid hR5
                clear hA5 hW5 hR5
                cases bb with
                | true =>
                  obtain ⟨y0, hy0⟩ : ∃ y0, s4.old[0]? = some y0 := ⟨_, List.getElem?_eq_getElem (by have := HON.out; omega)⟩
                  obtain ⟨qb, qo, rfl, hqb, hqc, _⟩ := Segs.at_ HWw5.out.segs hy0
                  rw [Nat.zero_mul, Nat.add_zero] at hqc
                  obtain ⟨n0', ix0⟩ := y0
                  have hy0b := HF4.out.2.2 _ (List.mem_of_getElem? hy0)
                  obtain ⟨hyb0, hyb1⟩ := hy0b
                  simp only at hyb0 hyb1 hqc
                  have hhd : s4.old.headD (0, 0) = (n0', ix0) := by
                    cases hh : s4.old with
                    | nil => rw [hh] at hy0; cases hy0
                    | cons a t => rw [hh] at hy0; cases hy0; rfl
                  have hqne : qb ≠ g := by
                    have := offrow_ne HWw5.out.blk HWw5.out.segs (by decide) qb rfl
                    exact this
                  have hgl5 : g < w5.heap.size := Blk.lt HWw5.out.blk
                  have hgo : ¬ O4 g := HWw5.out.apart g HWw5.out.qg
                  have hqo : ¬ O4 qb := HWw5.out.apart qb (HWw5.out.qs qb rfl)
                  have HAR := Lib.hid (show ∀ w', Calls Tryz.prog 39 #[.int .u64 n0'] w' fun e w2 => e = .returned (.int .u64 (4 * n0' + 1)) ∧ w2 = w' from fun w' => area_any n0' w' hyb0 (by omega))
                  have HFC := Lib.hid (show ∀ w', Below w5.heap.size w5 w' → w'.heap.size = w5.heap.size → Calls Tryz.prog 54 #[.pointer (some ⟨p, 0, none⟩), .int .u64 (4 * n0' + 1)] w' (DoEnd O4 p (doE st4 2 (4 * n0' + 1) 0 []) (doS st4 2 (4 * n0' + 1) 0 []) w') from fun w' hb hs =>
                    free_do O4 p st4 R i4 (4 * n0' + 1) 0 [] w' (HAw5.out.disk.below hb) HF4.out.1 (by have := HF4.out.2.1; omega) hR (wf_u64 (by omega) (by omega)))
                  obtain ⟨E, hE⟩ : ∃ E, doE st4 2 (4 * n0' + 1) 0 [] = E := ⟨_, rfl⟩
                  obtain ⟨st', hst'⟩ : ∃ st', doS st4 2 (4 * n0' + 1) 0 [] = st' := ⟨_, rfl⟩
                  rw [hE, hst'] at HFC
                  have hfpos : 1 ≤ f := by have := HON.out; omega
                  obtain ⟨f, rfl⟩ : ∃ f', f = f' + 1 := ⟨f - 1, by omega⟩
                  have hYE : frF s2.old.length s2 st2 x = if E ≠ 0 then ({ s4 with code := E }, st') else frF f { s4 with old := s4.old.tail } st' x := by
                    rw [HY.out, frF, if_pos ⟨by have := HON.out; omega, HBB.out⟩]
                    simp only
                    rw [hhd, hE, hst']
                  have HYE := Lib.hid hYE
                  have HFIT := Lib.hid (show FitS st' R (i4 + 1) from by rw [← hst']; exact fit_do (n := 0) HF4.out.1 (by decide))
                  have HB5 := Lib.hid HWw5.out.blk
                  clear hE hst' hYE hy0 hhd
                  have hON0 : (0 : Int) < (ON : Int) := by omega
                  have hON9 : 0 < ON := by omega
                  have hS0 : w5.cell? ⟨g, 1, none⟩ = some (.pointer (some ⟨p, 0, none⟩)) ∧ w5.cell? ⟨g, 4, none⟩ = some (.slice (some ⟨qb, qo, none⟩) ON oc4) ∧ w5.cell? ⟨qb, qo, none⟩ = some (.int .u64 n0') := ⟨m1, m4, hqc⟩
                  go_wp2_with fail
                  go_region_held3 (fun w' => w'.cell? ⟨g, 1, none⟩ = some (.pointer (some ⟨p, 0, none⟩)) ∧ w'.cell? ⟨g, 4, none⟩ = some (.slice (some ⟨qb, qo, none⟩) ON oc4) ∧ w'.cell? ⟨qb, qo, none⟩ = some (.int .u64 n0')) (first | assumption) (first
                    | (go_at_call 39; refine (HAR.out _).mono ?_; rintro e wz ⟨rfl, rfl⟩)
                    | (go_at_call 54
                       refine (HFC.out _ (Below.refl _ _).drew rfl).mono ?_
                       rintro e wz ⟨rfl, hK, O', hD', hO'⟩
                       have hBz : Blk wz g 75 (walV ov4 p s4.first (.slice la4 vs4.length lc4) (.slice (some ⟨qb, qo, none⟩) s4.old.length oc4) s4.next s4.code) := (hK.block g hgl5 hgo).trans HB5.out
                       have hSz : wz.cell? ⟨g, 1, none⟩ = some (.pointer (some ⟨p, 0, none⟩)) ∧ wz.cell? ⟨g, 4, none⟩ = some (.slice (some ⟨qb, qo, none⟩) ON oc4) ∧ wz.cell? ⟨qb, qo, none⟩ = some (.int .u64 n0') := ⟨hBz.cell 1, by rw [← HON.out]; exact hBz.cell 4, (hK.cell (p := ⟨qb, qo, none⟩) hqb hqo).trans hqc⟩
                       have HSZ := Lib.hid (And.intro hK (And.intro hD' (And.intro hO' hBz))))
                    | (go_at_call 37
                       have hdid := did_any g ov4 p s4.first _ _ s4.next 0 E _ (show Blk _ g 75 (walV ov4 p s4.first (.slice la4 vs4.length lc4) (.slice (some ⟨qb, qo, none⟩) s4.old.length oc4) s4.next 0) from by rw [← HC4.out]; exact HSZ.out.2.2.2)
                       rw [if_pos rfl] at hdid
                       refine hdid.mono ?_
                       clear hdid
                       rintro e w9 ⟨rfl, hB9, hK9, hs9⟩
                       have hS9 : w9.cell? ⟨g, 1, none⟩ = some (.pointer (some ⟨p, 0, none⟩)) ∧ w9.cell? ⟨g, 4, none⟩ = some (.slice (some ⟨qb, qo, none⟩) ON oc4) ∧ w9.cell? ⟨qb, qo, none⟩ = some (.int .u64 n0') := ⟨hB9.cell 1, by rw [← HON.out]; exact hB9.cell 4, (hK9.cell (p := ⟨qb, qo, none⟩) (Nat.lt_of_lt_of_le hqb HSZ.out.1.size) hqne).trans hSz.2.2⟩
                       have HB9 := Lib.hid (And.intro hB9 (And.intro hK9 hs9))
                       clear hB9 hK9 hs9))
                  all_goals
                    have HALL := Lib.hid (And.intro HSZ.out HB9.out)
                    clear HSZ HB9 hK hD' hO' hBz hSz hS9
                    obtain ⟨⟨hK, hD', hO', hBz⟩, hB9, hK9, hs9⟩ := HALL.out
                    obtain ⟨hA9, hW9⟩ := LogAt.once (HAw5.out.below (Below.refl _ _).drew) (HWw5.out.below (Below.refl _ _).drew) hK hD' hO' hB9 hK9 hs9
                    obtain ⟨z0, z1, z2, z3, z4, z5, z6⟩ := blk7 hB9
                    obtain ⟨t0, t1, t2, t3, t4, t5, t6⟩ := free7 hB9
                    rw [HON.out] at z4
                    have HA9 := Lib.hid hA9
                    have HW9 := Lib.hid hW9
                    clear HALL hK hD' hO' hBz hB9 hK9 hs9 hA9 hW9 m0 m1 m2 m3 m4 m5 m6 n0 n1 n2 n3 n4 n5 n6 hS0 hqc
                    by_cases hE0 : E = 0
                    · subst hE0
                      have hON1 : (1 : Int) ≤ (ON : Int) := by omega
                      have hON2 : 1 ≤ ON := by omega
                      have hoc1 : (1 : Int) ≤ (oc4 : Int) := by omega
                      have hoc2 : 1 ≤ oc4 := by omega
                      have hoc3 : 1 < oc4 := by omega
                      have hoc5 : ¬ oc4 = 1 := by omega
                      obtain ⟨M, hM⟩ : ∃ M, ON - 1 = M := ⟨_, rfl⟩
                      obtain ⟨Q7, hA7, hW7⟩ := old_drop HA9.out HW9.out rfl (by have := HON.out; omega)
                      rw [HON.out, hM] at hA7 hW7
                      have e0 : ((Option.map (fun x : Addr => x.add 2) (some ⟨qb, qo, none⟩)) : Option Addr) = some ⟨qb, qo + 2, none⟩ := by simp [add_any]
                      rw [e0] at hA7 hW7
                      have HA7 := Lib.hid hA7
                      have HW7 := Lib.hid hW7
                      clear hA7 hW7
                      go_wp2_with fail
                      have hs0 : ({ s4 with code := 0 } : LSt) = s4 := by
                        have := HC4.out
                        cases s4
                        simp_all
                      have hA7 := HA7.out
                      have e4 := (blk7 HW7.out.blk).2.2.2.2.1
                      have he : ({ s4 with code := 0, old := s4.old.tail } : LSt) = { s4 with old := s4.old.tail } := by
                        have := HC4.out
                        cases s4
                        simp_all
                      refine ⟨⟨f, { s4 with old := s4.old.tail }, st', O', Q7, i4 + 1, by rw [← he]; exact hA7, ?_, HC4.out, ?_, HFIT.out, by have := HF4.out.2.1; omega, HS4.out.1, HS4.out.2, fun y hy => HF4.out.2.2 y (List.mem_of_mem_tail hy)⟩, ?_⟩
                      · rw [HYE.out, if_neg (by simp)]
                      · have := HON.out
                        rw [List.length_tail]; omega
                      · have e5 := (blk7 HWwr.out.blk).2.2.2.2.1
                        have e6 : msrG g wr = ON := by unfold msrG; rw [e5]; exact HON.out
                        have e7 : ∀ W : World, W.cell? ⟨g, 4, none⟩ = some (.slice (some ⟨qb, qo + 2, none⟩) M (oc4 - 1)) → msrG g W = M := fun W h => by unfold msrG; rw [h]
                        rw [e6]
                        refine Nat.lt_of_le_of_lt (Nat.le_of_eq (e7 _ e4)) ?_
                        omega
                    · have hc1 : (E == 0) = false := by simpa using hE0
                      have hc2 : (E != 0) = true := by simpa using hE0
                      go_wp2_with fail
                      go_ret
                      have hz := HZ2.out
                      rw [if_neg (show ¬ s2.code ≠ 0 from fun h => h h2), HYE.out, if_pos hE0, if_pos (show ({ s4 with code := E } : LSt).code ≠ 0 from hE0)] at hz
                      rw [← hz]
                      exact ⟨rfl, O', Q4, HA9.out⟩
                | false =>
                  have HY4 := Lib.hid (show (s4, st4) = frF s2.old.length s2 st2 x from by
                    rw [HY.out]
                    cases f with
                    | zero => rfl
                    | succ f => rw [frF, if_neg (fun h => by rw [HBB.out] at h; exact absurd h.2 (by decide))])
                  go_wp2_with fail
                  -- the end: what is left
                  obtain ⟨lb, lo, rfl⟩ : ∃ lb lo, la4 = some ⟨lb, lo, none⟩ := by
                    obtain ⟨_, ⟨q1, q2⟩ | ⟨b', off', cap', cur', q1, _⟩⟩ := HRC.out.row
                    · exfalso; have := HVN.out; omega
                    · cases q1; exact ⟨b', off', rfl⟩
                  have hjN : (j : Int) ≤ (N : Int) := by omega
                  have hj0 : (0 : Int) ≤ (j : Int) := by omega
                  have hjn : j ≤ N := by omega
                  have hjc : (j : Int) ≤ (lc4 : Int) := by omega
                  have hjc' : j ≤ lc4 := by omega
                  obtain ⟨M, hM⟩ : ∃ M, N - j = M := ⟨_, rfl⟩
                  have hdr : Below w5.heap.size w5 w5.drew := (Below.refl _ _).drew
                  have hAd := HAw5.out.below hdr
                  have hWd := HWw5.out.below hdr
                  have hRd := HRC.out.keep (P := fun _ => False) (Keeps.of_below hdr) (fun _ _ h => h) (fun _ h => h.elim) (fun k hk => .inl hk)
                  have hend : ∀ (W : World) (lv' : Value) (Q7 : Nat → Prop), LogAt O Q w g p { s4 with L := s4.L.drop j } st4 O4 Q7 W → WalIn O4 Q7 W g p { s4 with L := s4.L.drop j } ov4 lv' (.slice oa4 s4.old.length oc4) → LogAt O Q w g p Z.1 Z.2.1 O4 Q7 (W.setCell ⟨g, 2, none⟩ (.int .u64 x)) ∧ Z.2.2 = 0 := fun W lv' Q7 g1 g2 => by
                    have hz := HZ2.out
                    have hy : (s4, st4) = frF s2.old.length s2 st2 x := HY4.out
                    rw [if_neg (show ¬ s2.code ≠ 0 from fun h => h h2), ← hy] at hz
                    have hjj : (x - s.first).toNat = j := by have := HJ.out; omega
                    rw [if_neg (show ¬ (s4, st4).1.code ≠ 0 from fun h => h HC4.out), hjj] at hz
                    rw [← hz]
                    have hKg : Keeps (fun k => k = g) W (W.setCell ⟨g, 2, none⟩ (.int .u64 x)) := set_keeps (Keeps.refl _ _) rfl (StrRow.no_blk g2.blk (by decide))
                    have hWg := g2.turn (s' := { s4 with L := s4.L.drop j, first := x }) hKg (by simp [World.setCell]) (g2.blk.set 2 _) rfl rfl rfl
                    exact ⟨g1.trans ⟨⟨_, _, _, hWg⟩, g1.disk.keep hKg (fun k hk e => g2.apart k (e ▸ g2.qg) hk), fun k hk => by have := g1.olt k hk; have := hKg.size; omega, fun k hk => .inl hk, keeps_mono hKg (fun k hk => .inr (hk ▸ g2.qg))⟩, rfl⟩
                  have HEND := Lib.hid hend
                  by_cases hjl : lc4 = j
                  · have hNj : N = j := by omega
                    obtain ⟨Q7, hA7, hW7⟩ := l_none hAd hWd hRd (fun e => by cases e)
                    have hd : s4.L.drop j = [] := List.drop_eq_nil_of_le (by have := HL4.out; omega)
                    rw [← hd] at hA7 hW7
                    have HF := Lib.hid (HEND.out _ _ _ hA7 hW7)
                    clear hAd hWd hRd hA7 hW7 hend hM
                    subst hjl hNj
                    go_wp2_with fail
                    refine' wp_cut0 _ _ ?reg ?imp
                    case reg =>
                      go_region_law (fail)
                      all_goals
                        refine ⟨rfl, ?_, ?_⟩
                        · exact Eq.refl _
                        · exact Eq.refl _
                    case imp =>
                      go_wp2_with fail
                      go_ret
                      exact ⟨by rw [HF.out.2]; rfl, O4, Q7, HF.out.1⟩
                  · obtain ⟨Q7, hA7, hW7⟩ := l_drop hAd hWd hRd rfl (j := j) (by have := HVN.out; omega)
                    rw [show vs4.length = N from HVN.out, hM] at hA7 hW7
                    have e0 : ((Option.map (fun x : Addr => x.add j) (some ⟨lb, lo, none⟩)) : Option Addr) = some ⟨lb, lo + j, none⟩ := by simp [add_any]
                    rw [e0] at hA7 hW7
                    have HF := Lib.hid (HEND.out _ _ _ hA7 hW7)
                    clear hAd hWd hRd hA7 hW7 hend e0
                    go_wp2_with fail
                    refine' wp_cut0 _ _ ?reg ?imp
                    case reg =>
                      go_region_law (fail)
                      all_goals
                        refine ⟨rfl, ?_, ?_⟩
                        · exact Eq.refl _
                        · exact Eq.refl _
                    case imp =>
                      go_wp2_with fail
                      go_ret
                      exact ⟨by rw [HF.out.2]; rfl, O4, Q7, HF.out.1⟩
              · have HY4 := Lib.hid (show (s4, st4) = frF s2.old.length s2 st2 x from by
                  rw [HY.out]
                  cases f with
                  | zero => rfl
                  | succ f => rw [frF, if_neg (fun h => by have := HON.out; omega)])
                go_wp2_with fail
                -- the end: what is left
                obtain ⟨lb, lo, rfl⟩ : ∃ lb lo, la4 = some ⟨lb, lo, none⟩ := by
                  obtain ⟨_, ⟨q1, q2⟩ | ⟨b', off', cap', cur', q1, _⟩⟩ := HRC.out.row
                  · exfalso; have := HVN.out; omega
                  · cases q1; exact ⟨b', off', rfl⟩
                have hjN : (j : Int) ≤ (N : Int) := by omega
                have hj0 : (0 : Int) ≤ (j : Int) := by omega
                have hjn : j ≤ N := by omega
                have hjc : (j : Int) ≤ (lc4 : Int) := by omega
                have hjc' : j ≤ lc4 := by omega
                obtain ⟨M, hM⟩ : ∃ M, N - j = M := ⟨_, rfl⟩
                have hdr : Below wr.heap.size wr wr.drew := (Below.refl _ _).drew
                have hAd := HAwr.out.below hdr
                have hWd := HWwr.out.below hdr
                have hRd := HRC.out.keep (P := fun _ => False) (Keeps.of_below hdr) (fun _ _ h => h) (fun _ h => h.elim) (fun k hk => .inl hk)
                have hend : ∀ (W : World) (lv' : Value) (Q7 : Nat → Prop), LogAt O Q w g p { s4 with L := s4.L.drop j } st4 O4 Q7 W → WalIn O4 Q7 W g p { s4 with L := s4.L.drop j } ov4 lv' (.slice oa4 s4.old.length oc4) → LogAt O Q w g p Z.1 Z.2.1 O4 Q7 (W.setCell ⟨g, 2, none⟩ (.int .u64 x)) ∧ Z.2.2 = 0 := fun W lv' Q7 g1 g2 => by
                  have hz := HZ2.out
                  have hy : (s4, st4) = frF s2.old.length s2 st2 x := HY4.out
                  rw [if_neg (show ¬ s2.code ≠ 0 from fun h => h h2), ← hy] at hz
                  have hjj : (x - s.first).toNat = j := by have := HJ.out; omega
                  rw [if_neg (show ¬ (s4, st4).1.code ≠ 0 from fun h => h HC4.out), hjj] at hz
                  rw [← hz]
                  have hKg : Keeps (fun k => k = g) W (W.setCell ⟨g, 2, none⟩ (.int .u64 x)) := set_keeps (Keeps.refl _ _) rfl (StrRow.no_blk g2.blk (by decide))
                  have hWg := g2.turn (s' := { s4 with L := s4.L.drop j, first := x }) hKg (by simp [World.setCell]) (g2.blk.set 2 _) rfl rfl rfl
                  exact ⟨g1.trans ⟨⟨_, _, _, hWg⟩, g1.disk.keep hKg (fun k hk e => g2.apart k (e ▸ g2.qg) hk), fun k hk => by have := g1.olt k hk; have := hKg.size; omega, fun k hk => .inl hk, keeps_mono hKg (fun k hk => .inr (hk ▸ g2.qg))⟩, rfl⟩
                have HEND := Lib.hid hend
                by_cases hjl : lc4 = j
                · have hNj : N = j := by omega
                  obtain ⟨Q7, hA7, hW7⟩ := l_none hAd hWd hRd (fun e => by cases e)
                  have hd : s4.L.drop j = [] := List.drop_eq_nil_of_le (by have := HL4.out; omega)
                  rw [← hd] at hA7 hW7
                  have HF := Lib.hid (HEND.out _ _ _ hA7 hW7)
                  clear hAd hWd hRd hA7 hW7 hend hM
                  subst hjl hNj
                  go_wp2_with fail
                  refine' wp_cut0 _ _ ?reg ?imp
                  case reg =>
                    go_region_law (fail)
                    all_goals
                      refine ⟨rfl, ?_, ?_⟩
                      · exact Eq.refl _
                      · exact Eq.refl _
                  case imp =>
                    go_wp2_with fail
                    go_ret
                    exact ⟨by rw [HF.out.2]; rfl, O4, Q7, HF.out.1⟩
                · obtain ⟨Q7, hA7, hW7⟩ := l_drop hAd hWd hRd rfl (j := j) (by have := HVN.out; omega)
                  rw [show vs4.length = N from HVN.out, hM] at hA7 hW7
                  have e0 : ((Option.map (fun x : Addr => x.add j) (some ⟨lb, lo, none⟩)) : Option Addr) = some ⟨lb, lo + j, none⟩ := by simp [add_any]
                  rw [e0] at hA7 hW7
                  have HF := Lib.hid (HEND.out _ _ _ hA7 hW7)
                  clear hAd hWd hRd hA7 hW7 hend e0
                  go_wp2_with fail
                  refine' wp_cut0 _ _ ?reg ?imp
                  case reg =>
                    go_region_law (fail)
                    all_goals
                      refine ⟨rfl, ?_, ?_⟩
                      · exact Eq.refl _
                      · exact Eq.refl _
                  case imp =>
                    go_wp2_with fail
                    go_ret
                    exact ⟨by rw [HF.out.2]; rfl, O4, Q7, HF.out.1⟩
          · have hc1 : (s2.code == 0) = false := by simpa using h2
            have hc2 : (s2.code != 0) = true := by simpa using h2
            go_wp2_with fail
            go_ret
            have hz := HZ2.out
            rw [if_pos h2] at hz
            rw [← hz]
            exact ⟨rfl, O2, Q2, HA2.out⟩
        · have htb : (x == TV) = false := by rw [beq_eq_false_iff_ne]; exact htop
          go_enter Tryz.func42, Tryz.ntmps42
          go_wp2_with fail
          go_quiet (fail)
          go_wp2_with fail
          obtain ⟨wa, hwa⟩ : ∃ wa, w.drewN nq = wa := ⟨_, rfl⟩
          have hbwa : Below w.heap.size w wa := by rw [← hwa]; exact below_drewN (Below.refl _ _) nq
          rw [hwa]
          refine (HLAST.out _ hbwa).mono ?_
          rintro e w1 ⟨rfl, hb1⟩
          have hA1 := (HREF.out.below hbwa).below hb1
          have HAT1 := Lib.hid hA1
          have HF1 := Lib.hid (And.intro hF (show i ≤ i + 1100 by omega))
          have HNU := Lib.hid (show ∀ q, s.opn = some q → 0 ≤ q.nu ∧ q.nu < 2305843009213693952 from fun q' hq' => ⟨(hLok.opn q' hq').n0, (hLok.opn q' hq').n1⟩)
          have HS1 := Lib.hid (And.intro (rfl : s.first = s.first) (rfl : s.L = s.L))
          have HOL := Lib.hid (And.intro (show s.old.length ≤ s.old.length + 1 by omega) hLok.olds)
          have hz := HZ.out
          rw [if_neg (by simp [hc]), if_neg (by omega), if_neg (by have := HJ.out; omega)] at hz
          try simp only at hz
          have hne1 : ¬ (x = s.first + (s.L.length : Int)) := by have := HTV.out; omega
          rw [if_neg hne1] at hz
          have HZ1 := Lib.hid hz
          clear hz hA1 hb1 hbwa hwa c0 c1 c2 c3 c4 c5 c6 hW hrec hWis hD hO hF
          go_wp2_with fail
          -- the sync
          have hsync := sync_log O Q g p s st R i w1 HAT1.out.wal HAT1.out.disk HAT1.out.olt HF1.out.1 (by have := HF1.out.2; omega) hR HNU.out
          obtain ⟨r2, hr2⟩ : ∃ r2, syS s st = r2 := ⟨_, rfl⟩
          have hsame2 := syS_same s st
          have hfit2 := syS_fit (s := s) HF1.out.1
          rw [hr2] at hsync hsame2 hfit2
          obtain ⟨s2, st2⟩ := r2
          obtain ⟨u1, u2, u3, u4, u5⟩ := hsame2
          simp only at u1 u2 u3 u4 u5 hsync hfit2
          have hz := HZ1.out
          rw [hr2] at hz
          try simp only at hz
          have HZ2 := Lib.hid hz
          have HL2 := Lib.hid (show s2.L = s.L from u4)
          have HL2f := Lib.hid (show s2.first = s.first from u3)
          have HO2 := Lib.hid (show ∀ y ∈ s2.old, 0 ≤ y.1 ∧ y.1 < 2305843009213693952 from by rw [u2]; exact HOL.out.2)
          have HO2l := Lib.hid (show s2.old.length ≤ s.old.length + 1 from by rw [u2]; exact HOL.out.1)
          have HFT2 := Lib.hid hfit2
          clear hz hr2 u1 u2 u3 u4 u5 hfit2
          refine hsync.mono ?_
          rintro e w2 ⟨rfl, O2, Q2, hA2⟩
          have HA2 := Lib.hid (HAT1.out.trans hA2)
          obtain ⟨ov2, lv2, oldv2, hW2⟩ := hA2.wal
          have k6 := (blk7 hW2.blk).2.2.2.2.2.2
          clear hA2 hW2 hsync
          by_cases h2 : s2.code = 0
          · have hst : CoInv O Q g p x R (i + s.old.length + 1200) (frF s2.old.length s2 st2 x) s2 w w2 := by
              have := HF1.out.2
              have := HO2l.out
              exact ⟨_, s2, st2, O2, Q2, _, HA2.out, rfl, h2, Nat.le_refl _, HFT2.out, by omega, rfl, rfl, HO2.out⟩
            have HST := Lib.hid hst
            rw [h2] at k6
            clear hst
            go_wp2_with fail
            go_loopw [] (fun wr => CoInv O Q g p x R (i + s.old.length + 1200) (frF s2.old.length s2 st2 x) s2 w wr) (fun wr => msrG g wr)
            case atStart => exact HST.out
            case round =>
              clear HST k6
              obtain ⟨f, s4, st4, O4, Q4, i4, hA4, hY, hc4, hf4, hF4, hi4, hs4f, hs4L, hold4⟩ := hrel
              have hA40 := hA4
              obtain ⟨ov4, lv4, oldv4, hW4⟩ := hA4.wal
              obtain ⟨vs4, hrec4⟩ := hW4.recs
              obtain ⟨la4, lc4, rfl, hlc4, _⟩ := hrec4.row.slice
              obtain ⟨oa4, oc4, rfl, hoc4, hoz4⟩ := OffRow.slice hW4.segs
              have hvN : vs4.length = N := by rw [hrec4.len, hs4L, HL2.out, ← hlen, hN]
              obtain ⟨k0, k1, k2, k3, k4, k5, k6⟩ := blk7 hW4.blk
              obtain ⟨f0, f1, f2, f3, f4, f5, f6⟩ := free7 hW4.blk
              rw [hvN] at k3 hlc4
              rw [hs4f, HL2f.out] at k2
              rw [hc4] at k6
              obtain ⟨ON, hON⟩ : ∃ ON, s4.old.length = ON := ⟨_, rfl⟩
              rw [hON] at k4 hoc4
              have HY := Lib.hid hY
              have HAwr := Lib.hid hA40
              have HWwr := Lib.hid hW4
              have HRC := Lib.hid hrec4
              have HC4 := Lib.hid hc4
              have HVN := Lib.hid hvN
              have HL4 := Lib.hid (show s4.L.length = N from by rw [← hvN, hrec4.len])
              have HF4 := Lib.hid (And.intro hF4 (And.intro hi4 hold4))
              have HS4 := Lib.hid (And.intro hs4f hs4L)
              have HON := Lib.hid hON
              have HFR := Lib.hid (show ∀ w', Below wr.heap.size wr w' → 1 ≤ s4.old.length → Calls Tryz.prog 59 #[.pointer (some ⟨g, 0, none⟩), .int .u64 x] w' fun e w2 => e = .returned (.bool (s4.old.tail.any fun s => decide (s.2 ≤ x))) ∧ Below w'.heap.size w' w2 from fun w' hb h1 => freed_any g ov4 p s4.first _ _ s4.next s4.code s4.old x w' (hW4.below hb).blk (hW4.below hb).segs h1 (by omega))
              clear hY hA4 hA40 hW4 hrec4 hc4 hvN hF4 hi4 hold4 hs4f hs4L hON
              by_cases hgt1 : (1 : Int) < (ON : Int)
              · obtain ⟨bb, hbb⟩ : ∃ bb, (s4.old.tail.any fun s => decide (s.2 ≤ x)) = bb := ⟨_, rfl⟩
                rw [hbb] at HFR
                have HBB := Lib.hid hbb
                clear hbb
                go_wp2_with fail
                refine (HFR.out _ (Below.refl _ _) (by have := HON.out; omega)).mono ?_
                rintro e w5 ⟨rfl, hb5⟩
                have hA5 := HAwr.out.below hb5
                have hW5 := HWwr.out.below hb5
                have hR5 := HRC.out.keep (P := fun _ => False) (Keeps.of_below hb5) (fun _ _ h => h) (fun _ h => h.elim) (fun k hk => .inl hk)
                obtain ⟨m0, m1, m2, m3, m4, m5, m6⟩ := blk7 hW5.blk
                obtain ⟨n0, n1, n2, n3, n4, n5, n6⟩ := free7 hW5.blk
                rw [HVN.out] at m3
                rw [HS4.out.1, HL2f.out] at m2
                rw [HC4.out] at m6
                rw [HON.out] at m4
                clear k0 k1 k2 k3 k4 k5 k6 f0 f1 f2 f3 f4 f5 f6
                have HAw5 := Lib.hid hA5
                have HWw5 := Lib.hid hW5
                have HRC := Lib.hid hR5
                clear hA5 hW5 hR5
                cases bb with
                | true =>
                  obtain ⟨y0, hy0⟩ : ∃ y0, s4.old[0]? = some y0 := ⟨_, List.getElem?_eq_getElem (by have := HON.out; omega)⟩
                  obtain ⟨qb, qo, rfl, hqb, hqc, _⟩ := Segs.at_ HWw5.out.segs hy0
                  rw [Nat.zero_mul, Nat.add_zero] at hqc
                  obtain ⟨n0', ix0⟩ := y0
                  have hy0b := HF4.out.2.2 _ (List.mem_of_getElem? hy0)
                  obtain ⟨hyb0, hyb1⟩ := hy0b
                  simp only at hyb0 hyb1 hqc
                  have hhd : s4.old.headD (0, 0) = (n0', ix0) := by
                    cases hh : s4.old with
                    | nil => rw [hh] at hy0; cases hy0
                    | cons a t => rw [hh] at hy0; cases hy0; rfl
                  have hqne : qb ≠ g := by
                    have := offrow_ne HWw5.out.blk HWw5.out.segs (by decide) qb rfl
                    exact this
                  have hgl5 : g < w5.heap.size := Blk.lt HWw5.out.blk
                  have hgo : ¬ O4 g := HWw5.out.apart g HWw5.out.qg
                  have hqo : ¬ O4 qb := HWw5.out.apart qb (HWw5.out.qs qb rfl)
                  have HAR := Lib.hid (show ∀ w', Calls Tryz.prog 39 #[.int .u64 n0'] w' fun e w2 => e = .returned (.int .u64 (4 * n0' + 1)) ∧ w2 = w' from fun w' => area_any n0' w' hyb0 (by omega))
                  have HFC := Lib.hid (show ∀ w', Below w5.heap.size w5 w' → w'.heap.size = w5.heap.size → Calls Tryz.prog 54 #[.pointer (some ⟨p, 0, none⟩), .int .u64 (4 * n0' + 1)] w' (DoEnd O4 p (doE st4 2 (4 * n0' + 1) 0 []) (doS st4 2 (4 * n0' + 1) 0 []) w') from fun w' hb hs =>
                    free_do O4 p st4 R i4 (4 * n0' + 1) 0 [] w' (HAw5.out.disk.below hb) HF4.out.1 (by have := HF4.out.2.1; omega) hR (wf_u64 (by omega) (by omega)))
                  obtain ⟨E, hE⟩ : ∃ E, doE st4 2 (4 * n0' + 1) 0 [] = E := ⟨_, rfl⟩
                  obtain ⟨st', hst'⟩ : ∃ st', doS st4 2 (4 * n0' + 1) 0 [] = st' := ⟨_, rfl⟩
                  rw [hE, hst'] at HFC
                  have hfpos : 1 ≤ f := by have := HON.out; omega
                  obtain ⟨f, rfl⟩ : ∃ f', f = f' + 1 := ⟨f - 1, by omega⟩
                  have hYE : frF s2.old.length s2 st2 x = if E ≠ 0 then ({ s4 with code := E }, st') else frF f { s4 with old := s4.old.tail } st' x := by
                    rw [HY.out, frF, if_pos ⟨by have := HON.out; omega, HBB.out⟩]
                    simp only
                    rw [hhd, hE, hst']
                  have HYE := Lib.hid hYE
                  have HFIT := Lib.hid (show FitS st' R (i4 + 1) from by rw [← hst']; exact fit_do (n := 0) HF4.out.1 (by decide))
                  have HB5 := Lib.hid HWw5.out.blk
                  clear hE hst' hYE hy0 hhd
                  have hON0 : (0 : Int) < (ON : Int) := by omega
                  have hON9 : 0 < ON := by omega
                  have hS0 : w5.cell? ⟨g, 1, none⟩ = some (.pointer (some ⟨p, 0, none⟩)) ∧ w5.cell? ⟨g, 4, none⟩ = some (.slice (some ⟨qb, qo, none⟩) ON oc4) ∧ w5.cell? ⟨qb, qo, none⟩ = some (.int .u64 n0') := ⟨m1, m4, hqc⟩
                  go_wp2_with fail
                  go_region_held3 (fun w' => w'.cell? ⟨g, 1, none⟩ = some (.pointer (some ⟨p, 0, none⟩)) ∧ w'.cell? ⟨g, 4, none⟩ = some (.slice (some ⟨qb, qo, none⟩) ON oc4) ∧ w'.cell? ⟨qb, qo, none⟩ = some (.int .u64 n0')) (first | assumption) (first
                    | (go_at_call 39; refine (HAR.out _).mono ?_; rintro e wz ⟨rfl, rfl⟩)
                    | (go_at_call 54
                       refine (HFC.out _ (Below.refl _ _).drew rfl).mono ?_
                       rintro e wz ⟨rfl, hK, O', hD', hO'⟩
                       have hBz : Blk wz g 75 (walV ov4 p s4.first (.slice la4 vs4.length lc4) (.slice (some ⟨qb, qo, none⟩) s4.old.length oc4) s4.next s4.code) := (hK.block g hgl5 hgo).trans HB5.out
                       have hSz : wz.cell? ⟨g, 1, none⟩ = some (.pointer (some ⟨p, 0, none⟩)) ∧ wz.cell? ⟨g, 4, none⟩ = some (.slice (some ⟨qb, qo, none⟩) ON oc4) ∧ wz.cell? ⟨qb, qo, none⟩ = some (.int .u64 n0') := ⟨hBz.cell 1, by rw [← HON.out]; exact hBz.cell 4, (hK.cell (p := ⟨qb, qo, none⟩) hqb hqo).trans hqc⟩
                       have HSZ := Lib.hid (And.intro hK (And.intro hD' (And.intro hO' hBz))))
                    | (go_at_call 37
                       have hdid := did_any g ov4 p s4.first _ _ s4.next 0 E _ (show Blk _ g 75 (walV ov4 p s4.first (.slice la4 vs4.length lc4) (.slice (some ⟨qb, qo, none⟩) s4.old.length oc4) s4.next 0) from by rw [← HC4.out]; exact HSZ.out.2.2.2)
                       rw [if_pos rfl] at hdid
                       refine hdid.mono ?_
                       clear hdid
                       rintro e w9 ⟨rfl, hB9, hK9, hs9⟩
                       have hS9 : w9.cell? ⟨g, 1, none⟩ = some (.pointer (some ⟨p, 0, none⟩)) ∧ w9.cell? ⟨g, 4, none⟩ = some (.slice (some ⟨qb, qo, none⟩) ON oc4) ∧ w9.cell? ⟨qb, qo, none⟩ = some (.int .u64 n0') := ⟨hB9.cell 1, by rw [← HON.out]; exact hB9.cell 4, (hK9.cell (p := ⟨qb, qo, none⟩) (Nat.lt_of_lt_of_le hqb HSZ.out.1.size) hqne).trans hSz.2.2⟩
                       have HB9 := Lib.hid (And.intro hB9 (And.intro hK9 hs9))
                       clear hB9 hK9 hs9))
                  all_goals
                    have HALL := Lib.hid (And.intro HSZ.out HB9.out)
                    clear HSZ HB9 hK hD' hO' hBz hSz hS9
                    obtain ⟨⟨hK, hD', hO', hBz⟩, hB9, hK9, hs9⟩ := HALL.out
                    obtain ⟨hA9, hW9⟩ := LogAt.once (HAw5.out.below (Below.refl _ _).drew) (HWw5.out.below (Below.refl _ _).drew) hK hD' hO' hB9 hK9 hs9
                    obtain ⟨z0, z1, z2, z3, z4, z5, z6⟩ := blk7 hB9
                    obtain ⟨t0, t1, t2, t3, t4, t5, t6⟩ := free7 hB9
                    rw [HON.out] at z4
                    have HA9 := Lib.hid hA9
                    have HW9 := Lib.hid hW9
                    clear HALL hK hD' hO' hBz hB9 hK9 hs9 hA9 hW9 m0 m1 m2 m3 m4 m5 m6 n0 n1 n2 n3 n4 n5 n6 hS0 hqc
                    by_cases hE0 : E = 0
                    · subst hE0
                      have hON1 : (1 : Int) ≤ (ON : Int) := by omega
                      have hON2 : 1 ≤ ON := by omega
                      have hoc1 : (1 : Int) ≤ (oc4 : Int) := by omega
                      have hoc2 : 1 ≤ oc4 := by omega
                      have hoc3 : 1 < oc4 := by omega
                      have hoc5 : ¬ oc4 = 1 := by omega
                      obtain ⟨M, hM⟩ : ∃ M, ON - 1 = M := ⟨_, rfl⟩
                      obtain ⟨Q7, hA7, hW7⟩ := old_drop HA9.out HW9.out rfl (by have := HON.out; omega)
                      rw [HON.out, hM] at hA7 hW7
                      have e0 : ((Option.map (fun x : Addr => x.add 2) (some ⟨qb, qo, none⟩)) : Option Addr) = some ⟨qb, qo + 2, none⟩ := by simp [add_any]
                      rw [e0] at hA7 hW7
                      have HA7 := Lib.hid hA7
                      have HW7 := Lib.hid hW7
                      clear hA7 hW7
                      go_wp2_with fail
                      have hs0 : ({ s4 with code := 0 } : LSt) = s4 := by
                        have := HC4.out
                        cases s4
                        simp_all
                      have hA7 := HA7.out
                      have e4 := (blk7 HW7.out.blk).2.2.2.2.1
                      have he : ({ s4 with code := 0, old := s4.old.tail } : LSt) = { s4 with old := s4.old.tail } := by
                        have := HC4.out
                        cases s4
                        simp_all
                      refine ⟨⟨f, { s4 with old := s4.old.tail }, st', O', Q7, i4 + 1, by rw [← he]; exact hA7, ?_, HC4.out, ?_, HFIT.out, by have := HF4.out.2.1; omega, HS4.out.1, HS4.out.2, fun y hy => HF4.out.2.2 y (List.mem_of_mem_tail hy)⟩, ?_⟩
                      · rw [HYE.out, if_neg (by simp)]
                      · have := HON.out
                        rw [List.length_tail]; omega
                      · have e5 := (blk7 HWwr.out.blk).2.2.2.2.1
                        have e6 : msrG g wr = ON := by unfold msrG; rw [e5]; exact HON.out
                        have e7 : ∀ W : World, W.cell? ⟨g, 4, none⟩ = some (.slice (some ⟨qb, qo + 2, none⟩) M (oc4 - 1)) → msrG g W = M := fun W h => by unfold msrG; rw [h]
                        rw [e6]
                        refine Nat.lt_of_le_of_lt (Nat.le_of_eq (e7 _ e4)) ?_
                        omega
                    · have hc1 : (E == 0) = false := by simpa using hE0
                      have hc2 : (E != 0) = true := by simpa using hE0
                      go_wp2_with fail
                      go_ret
                      have hz := HZ2.out
                      rw [if_neg (show ¬ s2.code ≠ 0 from fun h => h h2), HYE.out, if_pos hE0, if_pos (show ({ s4 with code := E } : LSt).code ≠ 0 from hE0)] at hz
                      rw [← hz]
                      exact ⟨rfl, O', Q4, HA9.out⟩
                | false =>
                  have HY4 := Lib.hid (show (s4, st4) = frF s2.old.length s2 st2 x from by
                    rw [HY.out]
                    cases f with
                    | zero => rfl
                    | succ f => rw [frF, if_neg (fun h => by rw [HBB.out] at h; exact absurd h.2 (by decide))])
                  go_wp2_with fail
                  -- the end: what is left
                  obtain ⟨lb, lo, rfl⟩ : ∃ lb lo, la4 = some ⟨lb, lo, none⟩ := by
                    obtain ⟨_, ⟨q1, q2⟩ | ⟨b', off', cap', cur', q1, _⟩⟩ := HRC.out.row
                    · exfalso; have := HVN.out; omega
                    · cases q1; exact ⟨b', off', rfl⟩
                  have hjN : (j : Int) ≤ (N : Int) := by omega
                  have hj0 : (0 : Int) ≤ (j : Int) := by omega
                  have hjn : j ≤ N := by omega
                  have hjc : (j : Int) ≤ (lc4 : Int) := by omega
                  have hjc' : j ≤ lc4 := by omega
                  obtain ⟨M, hM⟩ : ∃ M, N - j = M := ⟨_, rfl⟩
                  have hdr : Below w5.heap.size w5 w5.drew := (Below.refl _ _).drew
                  have hAd := HAw5.out.below hdr
                  have hWd := HWw5.out.below hdr
                  have hRd := HRC.out.keep (P := fun _ => False) (Keeps.of_below hdr) (fun _ _ h => h) (fun _ h => h.elim) (fun k hk => .inl hk)
                  have hend : ∀ (W : World) (lv' : Value) (Q7 : Nat → Prop), LogAt O Q w g p { s4 with L := s4.L.drop j } st4 O4 Q7 W → WalIn O4 Q7 W g p { s4 with L := s4.L.drop j } ov4 lv' (.slice oa4 s4.old.length oc4) → LogAt O Q w g p Z.1 Z.2.1 O4 Q7 (W.setCell ⟨g, 2, none⟩ (.int .u64 x)) ∧ Z.2.2 = 0 := fun W lv' Q7 g1 g2 => by
                    have hz := HZ2.out
                    have hy : (s4, st4) = frF s2.old.length s2 st2 x := HY4.out
                    rw [if_neg (show ¬ s2.code ≠ 0 from fun h => h h2), ← hy] at hz
                    have hjj : (x - s.first).toNat = j := by have := HJ.out; omega
                    rw [if_neg (show ¬ (s4, st4).1.code ≠ 0 from fun h => h HC4.out), hjj] at hz
                    rw [← hz]
                    have hKg : Keeps (fun k => k = g) W (W.setCell ⟨g, 2, none⟩ (.int .u64 x)) := set_keeps (Keeps.refl _ _) rfl (StrRow.no_blk g2.blk (by decide))
                    have hWg := g2.turn (s' := { s4 with L := s4.L.drop j, first := x }) hKg (by simp [World.setCell]) (g2.blk.set 2 _) rfl rfl rfl
                    exact ⟨g1.trans ⟨⟨_, _, _, hWg⟩, g1.disk.keep hKg (fun k hk e => g2.apart k (e ▸ g2.qg) hk), fun k hk => by have := g1.olt k hk; have := hKg.size; omega, fun k hk => .inl hk, keeps_mono hKg (fun k hk => .inr (hk ▸ g2.qg))⟩, rfl⟩
                  have HEND := Lib.hid hend
                  by_cases hjl : lc4 = j
                  · have hNj : N = j := by omega
                    obtain ⟨Q7, hA7, hW7⟩ := l_none hAd hWd hRd (fun e => by cases e)
                    have hd : s4.L.drop j = [] := List.drop_eq_nil_of_le (by have := HL4.out; omega)
                    rw [← hd] at hA7 hW7
                    have HF := Lib.hid (HEND.out _ _ _ hA7 hW7)
                    clear hAd hWd hRd hA7 hW7 hend hM
                    subst hjl hNj
                    go_wp2_with fail
                    refine' wp_cut0 _ _ ?reg ?imp
                    case reg =>
                      go_region_law (fail)
                      all_goals
                        refine ⟨rfl, ?_, ?_⟩
                        · exact Eq.refl _
                        · exact Eq.refl _
                    case imp =>
                      go_wp2_with fail
                      go_ret
                      exact ⟨by rw [HF.out.2]; rfl, O4, Q7, HF.out.1⟩
                  · obtain ⟨Q7, hA7, hW7⟩ := l_drop hAd hWd hRd rfl (j := j) (by have := HVN.out; omega)
                    rw [show vs4.length = N from HVN.out, hM] at hA7 hW7
                    have e0 : ((Option.map (fun x : Addr => x.add j) (some ⟨lb, lo, none⟩)) : Option Addr) = some ⟨lb, lo + j, none⟩ := by simp [add_any]
                    rw [e0] at hA7 hW7
                    have HF := Lib.hid (HEND.out _ _ _ hA7 hW7)
                    clear hAd hWd hRd hA7 hW7 hend e0
                    go_wp2_with fail
                    refine' wp_cut0 _ _ ?reg ?imp
                    case reg =>
                      go_region_law (fail)
                      all_goals
                        refine ⟨rfl, ?_, ?_⟩
                        · exact Eq.refl _
                        · exact Eq.refl _
                    case imp =>
                      go_wp2_with fail
                      go_ret
                      exact ⟨by rw [HF.out.2]; rfl, O4, Q7, HF.out.1⟩
              · have HY4 := Lib.hid (show (s4, st4) = frF s2.old.length s2 st2 x from by
                  rw [HY.out]
                  cases f with
                  | zero => rfl
                  | succ f => rw [frF, if_neg (fun h => by have := HON.out; omega)])
                go_wp2_with fail
                -- the end: what is left
                obtain ⟨lb, lo, rfl⟩ : ∃ lb lo, la4 = some ⟨lb, lo, none⟩ := by
                  obtain ⟨_, ⟨q1, q2⟩ | ⟨b', off', cap', cur', q1, _⟩⟩ := HRC.out.row
                  · exfalso; have := HVN.out; omega
                  · cases q1; exact ⟨b', off', rfl⟩
                have hjN : (j : Int) ≤ (N : Int) := by omega
                have hj0 : (0 : Int) ≤ (j : Int) := by omega
                have hjn : j ≤ N := by omega
                have hjc : (j : Int) ≤ (lc4 : Int) := by omega
                have hjc' : j ≤ lc4 := by omega
                obtain ⟨M, hM⟩ : ∃ M, N - j = M := ⟨_, rfl⟩
                have hdr : Below wr.heap.size wr wr.drew := (Below.refl _ _).drew
                have hAd := HAwr.out.below hdr
                have hWd := HWwr.out.below hdr
                have hRd := HRC.out.keep (P := fun _ => False) (Keeps.of_below hdr) (fun _ _ h => h) (fun _ h => h.elim) (fun k hk => .inl hk)
                have hend : ∀ (W : World) (lv' : Value) (Q7 : Nat → Prop), LogAt O Q w g p { s4 with L := s4.L.drop j } st4 O4 Q7 W → WalIn O4 Q7 W g p { s4 with L := s4.L.drop j } ov4 lv' (.slice oa4 s4.old.length oc4) → LogAt O Q w g p Z.1 Z.2.1 O4 Q7 (W.setCell ⟨g, 2, none⟩ (.int .u64 x)) ∧ Z.2.2 = 0 := fun W lv' Q7 g1 g2 => by
                  have hz := HZ2.out
                  have hy : (s4, st4) = frF s2.old.length s2 st2 x := HY4.out
                  rw [if_neg (show ¬ s2.code ≠ 0 from fun h => h h2), ← hy] at hz
                  have hjj : (x - s.first).toNat = j := by have := HJ.out; omega
                  rw [if_neg (show ¬ (s4, st4).1.code ≠ 0 from fun h => h HC4.out), hjj] at hz
                  rw [← hz]
                  have hKg : Keeps (fun k => k = g) W (W.setCell ⟨g, 2, none⟩ (.int .u64 x)) := set_keeps (Keeps.refl _ _) rfl (StrRow.no_blk g2.blk (by decide))
                  have hWg := g2.turn (s' := { s4 with L := s4.L.drop j, first := x }) hKg (by simp [World.setCell]) (g2.blk.set 2 _) rfl rfl rfl
                  exact ⟨g1.trans ⟨⟨_, _, _, hWg⟩, g1.disk.keep hKg (fun k hk e => g2.apart k (e ▸ g2.qg) hk), fun k hk => by have := g1.olt k hk; have := hKg.size; omega, fun k hk => .inl hk, keeps_mono hKg (fun k hk => .inr (hk ▸ g2.qg))⟩, rfl⟩
                have HEND := Lib.hid hend
                by_cases hjl : lc4 = j
                · have hNj : N = j := by omega
                  obtain ⟨Q7, hA7, hW7⟩ := l_none hAd hWd hRd (fun e => by cases e)
                  have hd : s4.L.drop j = [] := List.drop_eq_nil_of_le (by have := HL4.out; omega)
                  rw [← hd] at hA7 hW7
                  have HF := Lib.hid (HEND.out _ _ _ hA7 hW7)
                  clear hAd hWd hRd hA7 hW7 hend hM
                  subst hjl hNj
                  go_wp2_with fail
                  refine' wp_cut0 _ _ ?reg ?imp
                  case reg =>
                    go_region_law (fail)
                    all_goals
                      refine ⟨rfl, ?_, ?_⟩
                      · exact Eq.refl _
                      · exact Eq.refl _
                  case imp =>
                    go_wp2_with fail
                    go_ret
                    exact ⟨by rw [HF.out.2]; rfl, O4, Q7, HF.out.1⟩
                · obtain ⟨Q7, hA7, hW7⟩ := l_drop hAd hWd hRd rfl (j := j) (by have := HVN.out; omega)
                  rw [show vs4.length = N from HVN.out, hM] at hA7 hW7
                  have e0 : ((Option.map (fun x : Addr => x.add j) (some ⟨lb, lo, none⟩)) : Option Addr) = some ⟨lb, lo + j, none⟩ := by simp [add_any]
                  rw [e0] at hA7 hW7
                  have HF := Lib.hid (HEND.out _ _ _ hA7 hW7)
                  clear hAd hWd hRd hA7 hW7 hend e0
                  go_wp2_with fail
                  refine' wp_cut0 _ _ ?reg ?imp
                  case reg =>
                    go_region_law (fail)
                    all_goals
                      refine ⟨rfl, ?_, ?_⟩
                      · exact Eq.refl _
                      · exact Eq.refl _
                  case imp =>
                    go_wp2_with fail
                    go_ret
                    exact ⟨by rw [HF.out.2]; rfl, O4, Q7, HF.out.1⟩
          · have hc1 : (s2.code == 0) = false := by simpa using h2
            have hc2 : (s2.code != 0) = true := by simpa using h2
            go_wp2_with fail
            go_ret
            have hz := HZ2.out
            rw [if_pos h2] at hz
            rw [← hz]
            exact ⟨rfl, O2, Q2, HA2.out⟩
  · have hc1 : (s.code == 0) = false := by simpa using hc
    have hc2 : (s.code != 0) = true := by simpa using hc
    go_enter Tryz.func42, Tryz.ntmps42
    go_wp2_with fail
    go_ret
    have hz := HZ.out
    rw [if_pos hc] at hz
    rw [← hz]
    exact ⟨rfl, O, Q, HREF.out⟩
end Go.Proofs.YtcpkpljeimbdiaaGreat.W
namespace Go.Proofs.YtcpkpljeimbdiaaGreat.W
open Go.RowKit
open Aid K
set_option linter.unusedSimpArgs false
set_option linter.unusedVariables false
def nearB (n : Int) : Bool := decide (-1000000 < n) && decide (n < 1000000)
set_option maxRecDepth 100000 in
theorem near_any (k n : Int) (bv : Value) (w : World) : Calls Tryz.prog 18 #[.agg #[.int .i64 k, .int .i64 n, bv]] w fun e w' => e = .returned (.bool (nearB n)) ∧ Below w.heap.size w w' := by
  have hb : Below w.heap.size w (w.alloc (.cells #[.int .i64 k, .int .i64 n, bv] 55)) := (Below.refl _ _).alloc (Nat.le_refl _) _
  by_cases h1 : -1000000 < n
  · go_enter Tryz.func18, Tryz.ntmps18
    go_wp2_with fail
    go_ret
    exact ⟨by unfold nearB; rw [decide_eq_true h1]; rfl, hb⟩
  · go_enter Tryz.func18, Tryz.ntmps18
    go_wp2_with fail
    go_ret
    exact ⟨by unfold nearB; rw [decide_eq_false (show ¬ (-1000000 < n) by omega)]; rfl, hb⟩
set_option maxRecDepth 100000 in
theorem index_any (first : Int) (lv : Value) (k n : Int) (bv : Value) (w : World) : Calls Tryz.prog 40 #[.agg #[.int .u64 first, lv], .agg #[.int .i64 k, .int .i64 n, bv]] w fun e w' => e = .returned (.int .u64 (IntKind.u64.wrap (first + IntKind.u64.wrap n))) ∧ Below w.heap.size w w' := by
  go_enter Tryz.func40, Tryz.ntmps40
  go_wp2_with fail
  go_ret
  refine ⟨?_, ?_⟩
  · skip
    rfl
  · exact ((Below.refl _ _).alloc (Nat.le_refl _) _).alloc (by simp) _
end Go.Proofs.YtcpkpljeimbdiaaGreat.W
namespace Go.Proofs.YtcpkpljeimbdiaaGreat.W
open Go.RowKit
open Aid K
set_option linter.unusedSimpArgs false
set_option linter.unusedVariables false
noncomputable def doesS (s : LSt) (st : DSt) (k n : Int) (b : List Int) : LSt × DSt × Int :=
  let i := IntKind.u64.wrap (s.first + IntKind.u64.wrap n)
  if k = 0 then apS s st b
  else if k = 1 then ((syS s st).1, (syS s st).2, (syS s st).1.code)
  else if k = 2 then trS s st i
  else if k = 3 then coS s st i
  else (s, st, 0)
set_option maxRecDepth 100000 in
set_option maxHeartbeats 4000000 in
theorem does_any (O Q : Nat → Prop) (g p : Nat) (s : LSt) (st : DSt) (R : Int) (i kk : Nat) (k n : Int) (bv : Value) (b : List Int) (w : World) (hW : WalIs O Q w g p s) (hD : DiskIs O w p st) (hO : ∀ k, O k → k < w.heap.size)
    (hF : FitS st R i) (hi : i + s.old.length + 2200 ≤ 4398046511103) (hR : R ≤ 9223372036854775807) (hok : s.code = 0 → LogOk s (kk + 1)) (hf0 : 0 ≤ s.first) (hft : s.first + s.L.length ≤ 4611686018427387904) (hI : Ints w .u8 bv b) (hb : By8 b) (hbo : ∀ k, bv.ownBlock = some k → b ≠ [] → ¬ (O k ∨ Q k)) (hnuq : ∀ q, s.opn = some q → 0 ≤ q.nu ∧ q.nu < 2305843009213693952) :
    Calls Tryz.prog 20 #[.pointer (some ⟨g, 0, none⟩), .agg #[.int .i64 k, .int .i64 n, bv]] w (LogEnd O Q g p (doesS s st k n b).2.2 (doesS s st k n b).1 (doesS s st k n b).2.1 w) := by
  obtain ⟨ov, lv, oldv, hW0⟩ := hW
  obtain ⟨ba, bc, rfl⟩ := hI.form
  have HREF := Lib.hid (LogAt.refl ⟨ov, lv, oldv, hW0⟩ hD hO)
  obtain ⟨ix, hix⟩ : ∃ ix, IntKind.u64.wrap (s.first + IntKind.u64.wrap n) = ix := ⟨_, rfl⟩
  have hixb : 0 ≤ ix ∧ ix < 18446744073709551616 := by rw [← hix, IntKind.wrap_u64]; omega
  obtain ⟨Z, hZ⟩ : ∃ Z, doesS s st k n b = Z := ⟨_, rfl⟩
  rw [hZ]
  unfold doesS at hZ
  try simp only at hZ
  rw [hix] at hZ
  have HZ := Lib.hid hZ
  have HIX := Lib.hid hix
  have HI := Lib.hid hI
  have HW0 := Lib.hid hW0
  have hbA : Below w.heap.size w (w.alloc (.cells #[.int .i64 k, .int .i64 n, .slice ba b.length bc] 55)) := (Below.refl _ _).alloc (Nat.le_refl _) _
  have hBA : Blk (w.alloc (.cells #[.int .i64 k, .int .i64 n, .slice ba b.length bc] 55)) w.heap.size 55 #[.int .i64 k, .int .i64 n, .slice ba b.length bc] := Blk.alloc_new _ _ _
  obtain ⟨wA, hwA⟩ : ∃ wA, w.alloc (.cells #[.int .i64 k, .int .i64 n, .slice ba b.length bc] 55) = wA := ⟨_, rfl⟩
  rw [hwA] at hbA hBA
  have e0 := hBA.cell 0
  have e1 := hBA.cell 1
  have e2 := hBA.cell 2
  have HAA := Lib.hid (HREF.out.below hbA)
  have HFI := Lib.hid (show ∀ w', Below wA.heap.size wA w' → Calls Tryz.prog 12 #[.pointer (some ⟨g, 0, none⟩)] w' fun e w2 => e = .returned (.int .u64 s.first) ∧ w2 = w' from fun w' hb => first_any g ov p s.first lv oldv s.next s.code w' ((HW0.out.below hbA).below hb).blk)
  have HIA := Lib.hid (HI.out.below hbA)
  have hbo' : ∀ k, (Value.slice ba b.length bc).ownBlock = some k → b ≠ [] → ¬ (O k ∨ Q k) := hbo
  have HAD := Lib.hid (HAA.out.below (Below.refl wA.heap.size wA).drew)
  have HID := Lib.hid (HIA.out.below (Below.refl wA.heap.size wA).drew)
  have hix2 : IntKind.u64.wrap (s.first + n) = ix := by
    rw [← hix, IntKind.wrap_u64, IntKind.wrap_u64, IntKind.wrap_u64]; omega
  clear hZ hI hW0 hD hbA hBA
  by_cases k0 : k = 0
  · subst k0
    have hz := HZ.out
    rw [if_pos rfl] at hz
    have hcall := append_any O Q g p s st R i kk (.slice ba b.length bc) b wA.drew HAD.out.wal HAD.out.disk HAD.out.olt hF (by omega) hR hok hf0 hft HID.out hb hbo'
    rw [hz] at hcall
    have HC := Lib.hid hcall
    clear hcall hz
    go_enter Tryz.func20, Tryz.ntmps20
    go_wp2_with fail
    try rw [hwA]
    have hS0 : wA.cell? ⟨w.heap.size, 1, none⟩ = some (.int .i64 n) := e1
    go_region_held3 (fun w' => w'.cell? ⟨w.heap.size, 1, none⟩ = some (.int .i64 n)) (first | assumption) (first
      | (go_at_call 12; refine (HFI.out _ (Below.refl _ _).drew).mono ?_; rintro e wz ⟨rfl, rfl⟩))
    all_goals
      go_wp2_with fail
      refine HC.out.mono ?_
      rintro e w9 ⟨rfl, O9, Q9, hA9⟩
      have HA9 := Lib.hid hA9
      clear hA9
      go_wp2_with fail
      go_ret
      exact ⟨rfl, O9, Q9, HAD.out.trans HA9.out⟩
  by_cases k1 : k = 1
  · subst k1
    have hnq : ∀ q, s.opn = some q → 0 ≤ q.nu ∧ q.nu < 2305843009213693952 := hnuq
    have hz := HZ.out
    rw [if_neg k0, if_pos rfl] at hz
    have hcall := sync_log O Q g p s st R i wA.drew HAD.out.wal HAD.out.disk HAD.out.olt hF (by omega) hR hnq
    rw [show (syS s st).1.code = Z.2.2 by rw [← hz], show (syS s st).1 = Z.1 by rw [← hz], show (syS s st).2 = Z.2.1 by rw [← hz]] at hcall
    have HC := Lib.hid hcall
    clear hcall hz
    go_enter Tryz.func20, Tryz.ntmps20
    go_wp2_with fail
    try rw [hwA]
    have hS0 : wA.cell? ⟨w.heap.size, 1, none⟩ = some (.int .i64 n) := e1
    go_region_held3 (fun w' => w'.cell? ⟨w.heap.size, 1, none⟩ = some (.int .i64 n)) (first | assumption) (first
      | (go_at_call 12; refine (HFI.out _ (Below.refl _ _).drew).mono ?_; rintro e wz ⟨rfl, rfl⟩))
    all_goals
      go_wp2_with fail
      refine HC.out.mono ?_
      rintro e w9 ⟨rfl, O9, Q9, hA9⟩
      have HA9 := Lib.hid hA9
      clear hA9
      go_wp2_with fail
      go_ret
      exact ⟨rfl, O9, Q9, HAD.out.trans HA9.out⟩
  by_cases k2 : k = 2
  · subst k2
    have hz := HZ.out
    rw [if_neg k0, if_neg k1, if_pos rfl] at hz
    have hcall := truncate_any O Q g p s st R i kk ix wA.drew HAD.out.wal HAD.out.disk HAD.out.olt hF (by omega) hR hok hf0 hft hixb.1 hixb.2
    rw [hz] at hcall
    have HC := Lib.hid hcall
    clear hcall hz
    go_enter Tryz.func20, Tryz.ntmps20
    go_wp2_with fail
    try rw [hwA]
    have hS0 : wA.cell? ⟨w.heap.size, 1, none⟩ = some (.int .i64 n) := e1
    go_region_held3 (fun w' => w'.cell? ⟨w.heap.size, 1, none⟩ = some (.int .i64 n)) (first | assumption) (first
      | (go_at_call 12; refine (HFI.out _ (Below.refl _ _).drew).mono ?_; rintro e wz ⟨rfl, rfl⟩))
    all_goals
      go_wp2_with fail
      refine HC.out.mono ?_
      rintro e w9 ⟨rfl, O9, Q9, hA9⟩
      have HA9 := Lib.hid hA9
      clear hA9
      go_wp2_with fail
      go_ret
      exact ⟨rfl, O9, Q9, HAD.out.trans HA9.out⟩
  by_cases k3 : k = 3
  · subst k3
    have hz := HZ.out
    rw [if_neg k0, if_neg k1, if_neg k2, if_pos rfl] at hz
    have hcall := compact_any O Q g p s st R i kk ix wA.drew HAD.out.wal HAD.out.disk HAD.out.olt hF hi hR hok hf0 hft hixb.1 hixb.2
    rw [hz] at hcall
    have HC := Lib.hid hcall
    clear hcall hz
    go_enter Tryz.func20, Tryz.ntmps20
    go_wp2_with fail
    try rw [hwA]
    have hS0 : wA.cell? ⟨w.heap.size, 1, none⟩ = some (.int .i64 n) := e1
    go_region_held3 (fun w' => w'.cell? ⟨w.heap.size, 1, none⟩ = some (.int .i64 n)) (first | assumption) (first
      | (go_at_call 12; refine (HFI.out _ (Below.refl _ _).drew).mono ?_; rintro e wz ⟨rfl, rfl⟩))
    all_goals
      go_wp2_with fail
      refine HC.out.mono ?_
      rintro e w9 ⟨rfl, O9, Q9, hA9⟩
      have HA9 := Lib.hid hA9
      clear hA9
      go_wp2_with fail
      go_ret
      exact ⟨rfl, O9, Q9, HAD.out.trans HA9.out⟩
  · skip
    have hz := HZ.out
    rw [if_neg k0, if_neg k1, if_neg k2, if_neg k3] at hz
    have b0 : (k == 0) = false := by simpa using k0
    have b1 : (k == 1) = false := by simpa using k1
    have b2 : (k == 2) = false := by simpa using k2
    have b3 : (k == 3) = false := by simpa using k3
    have HZ4 := Lib.hid hz
    clear hz
    go_enter Tryz.func20, Tryz.ntmps20
    go_wp2_with fail
    try rw [hwA]
    have hS0 : wA.cell? ⟨w.heap.size, 1, none⟩ = some (.int .i64 n) := e1
    go_region_held3 (fun w' => w'.cell? ⟨w.heap.size, 1, none⟩ = some (.int .i64 n)) (first | assumption) (first
      | (go_at_call 12; refine (HFI.out _ (Below.refl _ _).drew).mono ?_; rintro e wz ⟨rfl, rfl⟩))
    all_goals
      go_wp2_with fail
      go_ret
      rw [← HZ4.out]
      exact ⟨rfl, O, Q, HAD.out⟩
end Go.Proofs.YtcpkpljeimbdiaaGreat.W
namespace Go.Proofs.YtcpkpljeimbdiaaGreat.W
open Go.RowKit
open Aid K
set_option linter.unusedSimpArgs false
set_option linter.unusedVariables false
def Pd (r : LSt × DSt) : Prop := r.2.dead = true → r.1.code = 30
theorem do_pd {st : DSt} {k a n : Int} {l : List Int} (hd : st.dead = false) (hk : k ≠ 3) : (doS st k a n l).dead = true → doE st k a n l = 30 := fun h => (do_dies hd hk h).1
theorem do_ok {st : DSt} {k a n : Int} {l : List Int} (hd : st.dead = false) (hk : k ≠ 3) (h : doE st k a n l = 0) : (doS st k a n l).dead = false := by
  cases hh : (doS st k a n l).dead with
  | false => rfl
  | true => rw [do_pd hd hk hh] at h; cases h
theorem wrF_pd {a : Int} : ∀ (f : Nat) {st : DSt} {full : Nat} {rest : List Int}, st.dead = false → ((wrF a f st full rest).1.dead = true → (wrF a f st full rest).2.2.2 = 30)
  | 0, st, full, rest, hd, h => by simp only [wrF] at h; rw [hd] at h; cases h
  | f + 1, st, full, rest, hd, h => by
    rw [wrF] at h ⊢
    split
    · rename_i h1
      rw [if_pos h1] at h
      exact do_pd hd (by decide) h
    · rename_i h1
      rw [if_neg h1] at h
      have h0 : doE st 0 a full (secW rest) = 0 := Decidable.not_not.1 fun e => h1 (.inl e)
      split
      · rename_i h2
        rw [if_pos h2] at h
        exact absurd (do_pd hd (by decide) h) (by rw [h0]; decide)
      · rename_i h2
        rw [if_neg h2] at h
        exact wrF_pd f (do_ok hd (by decide) h0) h
theorem wrS_pd {s : LSt} {st : DSt} {b : List Int} (hd : st.dead = false) (hc : s.code = 0) : Pd (wrS s st b) := by
  unfold Pd wrS
  split
  · intro h; rw [hd] at h; cases h
  · exact wrF_pd _ hd
theorem syS_pd {s : LSt} {st : DSt} (h : Pd (s, st)) : Pd (syS s st) := by
  unfold syS
  split
  · exact h
  · rename_i hc
    have hd : st.dead = false := by
      cases hh : st.dead with
      | false => rfl
      | true => exact absurd (h hh) (by rw [Decidable.not_not.1 hc]; decide)
    split
    · exact h
    · exact fun h => do_pd hd (by decide) h
theorem pd_ok {r : LSt × DSt} (h : Pd r) (hc : r.1.code = 0) : r.2.dead = false := by
  cases hh : r.2.dead with
  | false => rfl
  | true => exact absurd (h hh) (by rw [hc]; decide)
theorem beS_pd {s : LSt} {st : DSt} {ix : Int} (h : Pd (s, st)) : Pd (beS s st ix) := by
  unfold beS
  simp only
  have h1 := syS_pd h
  split
  · exact h1
  · rename_i hc
    have hc0 : (syS s st).1.code = 0 := Decidable.not_not.1 hc
    exact wrS_pd (pd_ok h1 hc0) hc0
theorem frF_all : ∀ (f : Nat) {s : LSt} {st : DSt} {x R : Int} {i : Nat}, Pd (s, st) → s.code = 0 → FitS st R i → Pd (frF f s st x) ∧ (frF f s st x).1.opn = s.opn ∧ (frF f s st x).1.next = s.next ∧ (frF f s st x).1.L = s.L ∧ (frF f s st x).1.first = s.first ∧ (∃ k, (frF f s st x).1.old = s.old.drop k) ∧ FitS (frF f s st x).2 R (i + f)
  | 0, s, st, x, R, i, h, hc, hF => ⟨h, rfl, rfl, rfl, rfl, ⟨0, rfl⟩, hF⟩
  | f + 1, s, st, x, R, i, h, hc, hF => by
    have hd := pd_ok h hc
    have hF1 : FitS (doS st 2 (4 * (s.old.headD (0, 0)).1 + 1) 0 []) R (i + 1) := fit_do (n := 0) hF (by decide)
    rw [frF]
    split
    · simp only
      split
      · exact ⟨fun hh => do_pd hd (by decide) hh, rfl, rfl, rfl, rfl, ⟨0, rfl⟩, fit_mono hF1 (by omega)⟩
      · rename_i h2
        have h0 := Decidable.not_not.1 h2
        obtain ⟨q1, q2, q3, q4, q5, ⟨k, q6⟩, q7⟩ := frF_all f (s := { s with old := s.old.tail }) (st := doS st 2 (4 * (s.old.headD (0, 0)).1 + 1) 0 []) (x := x) (fun hh => absurd (do_pd hd (by decide) hh) (by rw [h0]; decide)) hc hF1
        refine ⟨q1, q2, q3, q4, q5, ⟨k + 1, ?_⟩, ?_⟩
        · rw [q6]; simp only; rw [← List.drop_one, List.drop_drop, Nat.add_comm]
        · rw [show i + (f + 1) = i + 1 + f by omega]; exact q7
    · exact ⟨h, rfl, rfl, rfl, rfl, ⟨0, rfl⟩, fit_mono hF (by omega)⟩
theorem beS_fu {s : LSt} {st : DSt} {ix : Int} {q : Opn} (h0 : 0 ≤ ix) (h1 : ix < 18446744073709551616) (h : (beS s st ix).1.opn = some q) (hc : (beS s st ix).1.code = 0) : q.fu ≤ 80 := by
  have hten := putU_ten (n := ix.toNat) (by omega)
  unfold beS at h hc
  simp only at h hc
  split at h
  · rename_i hh
    rw [if_pos hh] at hc
    exact absurd hc hh
  · unfold wrS at h
    simp only [Option.some.injEq] at h
    obtain ⟨_, q2, _⟩ := wrF_full (a := 4 * (syS s st).1.next + 1) (putU ix.toNat).length (st := (syS s st).2) (full := 0) (rest := putU ix.toNat) (Nat.le_refl _)
    rw [← h]
    simp only [List.length_nil, Nat.zero_add, List.nil_append]
    omega
structure Inv (s : LSt) (st : DSt) (R : Int) (k i : Nat) : Prop where
  pd : Pd (s, st)
  opn : s.code = 0 → ∀ q, s.opn = some q → OpnOk q
  next : 0 ≤ s.next ∧ s.next ≤ k
  first : 0 ≤ s.first
  top : s.first + s.L.length ≤ 4611686018427387904
  len : s.L.length ≤ k
  old : s.old.length ≤ k
  olds : ∀ x ∈ s.old, 0 ≤ x.1 ∧ x.1 < 2305843009213693952
  by8 : ∀ l ∈ s.L, By8 l
  nu : ∀ q, s.opn = some q → 0 ≤ q.nu ∧ q.nu < 2305843009213693952
  fit : FitS st R i
theorem Inv.ok {s : LSt} {st : DSt} {R : Int} {k i : Nat} (h : Inv s st R k i) (hk : k ≤ 2000000) (hc : s.code = 0) : LogOk s (2000000 + 1) :=
  ⟨h.opn hc, by have := h.next; omega, h.first, h.top, by have := h.old; omega, by have := h.len; omega, h.olds⟩
theorem Inv.mono {s : LSt} {st : DSt} {R : Int} {k i k' i' : Nat} (h : Inv s st R k i) (hk : k ≤ k') (hi : i ≤ i') : Inv s st R k' i' :=
  ⟨h.pd, h.opn, by have := h.next; omega, h.first, h.top, by have := h.len; omega, by have := h.old; omega, h.olds, h.by8, h.nu, fit_mono h.fit hi⟩
theorem Inv.sync {s : LSt} {st : DSt} {R : Int} {k i : Nat} (h : Inv s st R k i) : Inv (syS s st).1 (syS s st).2 R k (i + 1) := by
  obtain ⟨h1, h2, h3, h4, h5⟩ := syS_same s st
  refine ⟨syS_pd h.pd, fun hc q hq => ?_, by rw [h1]; exact h.next, by rw [h3]; exact h.first, by rw [h3, h4]; exact h.top, by rw [h4]; exact h.len, by rw [h2]; exact h.old, by rw [h2]; exact h.olds, by rw [h4]; exact h.by8, fun q hq => h.nu q (h5 ▸ hq), syS_fit h.fit⟩
  rw [h5] at hq
  refine h.opn ?_ q hq
  unfold syS at hc
  split at hc
  · exact hc
  · rename_i hh; exact Decidable.not_not.1 hh
theorem Inv.begin {s : LSt} {st : DSt} {R ix : Int} {k i : Nat} (h : Inv s st R k i) (hk : k ≤ 2000000) (hc : s.code = 0) (h0 : 0 ≤ ix) (h1 : ix < 18446744073709551616) : Inv (beS s st ix).1 (beS s st ix).2 R (k + 1) (i + 1100) := by
  have hL := h.ok hk hc
  obtain ⟨i3, q1, q2, q3, q4, q5, q6⟩ := beS_all (s := s) (st := st) (ix := ix) (s3 := (beS s st ix).1) (st3 := (beS s st ix).2) rfl hL h.fit h0 h1
  refine ⟨beS_pd h.pd, fun hc' q hq => ?_, by have := h.next; omega, by rw [q3.1]; exact h.first, by rw [q3.1, q3.2]; exact h.top, by rw [q3.2]; have := h.len; omega, by have := h.old; have := q5.1; omega, q5.2, by rw [q3.2]; exact h.by8, q4, fit_mono q1 (by omega)⟩
  obtain ⟨q', i4, p1, p2, _⟩ := beS_opn (s := s) (st := st) (ix := ix) (s3 := (beS s st ix).1) (st3 := (beS s st ix).2) rfl hc' hL.next.1 (by have := hL.next.2; omega) ⟨h0, h1⟩ h.fit
  rw [p1] at hq
  cases hq
  exact p2
theorem wrS_inv {s : LSt} {st : DSt} {R : Int} {k i : Nat} {b : List Int} (h : Inv s st R k i) (hc : s.code = 0) {q : Opn} (hq : s.opn = some q) (hf : q.fu ≤ 80) (hb : By8 b) (hl : b.length ≤ 522) : Inv (wrS s st b).1 (wrS s st b).2 R k (i + 700) := by
  obtain ⟨h1, h2, h3, h4⟩ := wrS_same s st b
  have hqo := h.opn hc q hq
  refine ⟨wrS_pd (pd_ok h.pd hc) hc, fun hc' q' hq' => ?_, by rw [h1]; exact h.next, by rw [h3]; exact h.first, by rw [h3, h4]; exact h.top, by rw [h4]; exact h.len, by rw [h2]; exact h.old, by rw [h2]; exact h.olds, by rw [h4]; exact h.by8, fun q' hq' => by rw [wrS_nu hq hq']; exact h.nu q hq, wrS_fit h.fit (fun q' hq' => by rw [hq] at hq'; cases hq'; exact ⟨by omega, by have := hqo.rest; omega⟩) (by omega)⟩
  obtain ⟨q2, p1, p2, _⟩ := wrS_opn hq hqo hb hl hf hc'
  rw [p1] at hq'
  cases hq'
  exact p2
theorem Inv.append {s : LSt} {st : DSt} {R : Int} {k i : Nat} {b : List Int} (h : Inv s st R k i) (hk : k ≤ 1999990) (hb : By8 b) : Inv (apS s st b).1 (apS s st b).2.1 R (k + 1) (i + 1800) := by
  unfold apS
  split
  · exact h.mono (by omega) (by omega)
  rename_i hc
  have hc0 := Decidable.not_not.1 hc
  split
  · exact h.mono (by omega) (by omega)
  rename_i hbl
  split
  · exact h.mono (by omega) (by omega)
  rename_i htop
  have hten := putU_ten (n := b.length) (by omega)
  have hbb : By8 (putU b.length ++ b) := fun x hx => (List.mem_append.1 hx).elim (fun h => putU_by8 (by omega) x h) (fun h => hb x h)
  have hbl2 : (putU b.length ++ b).length ≤ 522 := by rw [List.length_append]; omega
  have ht := h.top
  have hf := h.first
  have key : ∀ r : LSt × DSt, Inv r.1 r.2 R (k + 1) (i + 1100) → r.1.code = 0 → (∃ q, r.1.opn = some q ∧ q.fu ≤ 80) → r.1.first = s.first → r.1.L = s.L → Inv (if (wrS r.1 r.2 (putU b.length ++ b)).1.code = 0 then { (wrS r.1 r.2 (putU b.length ++ b)).1 with L := (wrS r.1 r.2 (putU b.length ++ b)).1.L ++ [b] } else (wrS r.1 r.2 (putU b.length ++ b)).1) (wrS r.1 r.2 (putU b.length ++ b)).2 R (k + 1) (i + 1800) := by
    intro r hr hrc hrq hrf hrl
    obtain ⟨q, hq, hfu⟩ := hrq
    have hw := wrS_inv hr hrc hq hfu hbb hbl2
    obtain ⟨_, _, h3, h4⟩ := wrS_same r.1 r.2 (putU b.length ++ b)
    split
    · refine ⟨hw.pd, hw.opn, hw.next, hw.first, ?_, ?_, hw.old, hw.olds, ?_, hw.nu, hw.fit⟩
      · simp only [List.length_append, List.length_cons, List.length_nil]
        rw [h3, h4, hrf, hrl]
        omega
      · simp only [List.length_append, List.length_cons, List.length_nil]
        rw [h4, hrl]
        have := h.len; omega
      · intro l hl
        rcases List.mem_append.1 hl with hl | hl
        · exact hw.by8 l hl
        · rw [List.mem_singleton] at hl
          rw [hl]; exact hb
    · exact hw
  simp only
  by_cases hw : wantS s = true
  · rw [if_pos hw]
    have hB := h.begin (ix := s.first + s.L.length) (by omega) hc0 (by omega) (by omega)
    obtain ⟨q3, q4⟩ := beS_same s st (s.first + s.L.length)
    split
    · exact hB.mono (Nat.le_refl _) (by omega)
    · rename_i h2
      have h20 := Decidable.not_not.1 h2
      refine key _ hB h20 ?_ q3 q4
      have hL := h.ok (by omega) hc0
      obtain ⟨q', i4, p1, p2, _⟩ := beS_opn (s := s) (st := st) (ix := s.first + s.L.length) (s3 := (beS s st (s.first + s.L.length)).1) (st3 := (beS s st (s.first + s.L.length)).2) rfl h20 hL.next.1 (by have := hL.next.2; omega) ⟨by omega, by omega⟩ h.fit
      exact ⟨q', p1, beS_fu (by omega) (by omega) p1 h20⟩
  · rw [if_neg hw, if_neg hc]
    refine key (s, st) (h.mono (by omega) (by omega)) hc0 ?_ rfl rfl
    unfold wantS at hw
    cases hq : s.opn with
    | none => rw [hq] at hw; exact absurd rfl hw
    | some q => rw [hq] at hw; simp only [decide_eq_true_eq] at hw; exact ⟨q, rfl, by omega⟩
theorem Inv.trunc {s : LSt} {st : DSt} {R x : Int} {k i : Nat} (h : Inv s st R k i) (hk : k ≤ 1999990) (h0 : 0 ≤ x) (h1 : x < 18446744073709551616) : Inv (trS s st x).1 (trS s st x).2.1 R (k + 1) (i + 1800) := by
  unfold trS
  split
  · exact h.mono (by omega) (by omega)
  rename_i hc
  have hc0 := Decidable.not_not.1 hc
  split
  · exact h.mono (by omega) (by omega)
  split
  · exact h.mono (by omega) (by omega)
  have hB := (h.begin (by omega) hc0 h0 h1).mono (Nat.le_refl _) (show i + 1100 ≤ i + 1800 by omega)
  simp only
  split
  · refine ⟨hB.pd, hB.opn, hB.next, hB.first, ?_, ?_, hB.old, hB.olds, fun l hl => hB.by8 l (List.mem_of_mem_take hl), hB.nu, hB.fit⟩
    · simp only [List.length_take]; have := hB.top; omega
    · simp only [List.length_take]; have := hB.len; omega
  · exact hB
theorem Inv.comp {s : LSt} {st : DSt} {R x : Int} {k i : Nat} (h : Inv s st R k i) (hk : k ≤ 1999990) (h0 : 0 ≤ x) (h1 : x < 18446744073709551616) : Inv (coS s st x).1 (coS s st x).2.1 R (k + 1) (i + k + 1800) := by
  unfold coS
  split
  · exact h.mono (by omega) (by omega)
  rename_i hc
  have hc0 := Decidable.not_not.1 hc
  split
  · exact h.mono (by omega) (by omega)
  rename_i hx
  split
  · exact h.mono (by omega) (by omega)
  rename_i hx2
  simp only
  obtain ⟨r, hr⟩ : ∃ r, (if x = s.first + s.L.length then beS s st x else (s, st)) = r := ⟨_, rfl⟩
  have hR : Inv r.1 r.2 R (k + 1) (i + 1100) ∧ r.1.first = s.first ∧ r.1.L = s.L := by
    rw [← hr]
    split
    · exact ⟨h.begin (by omega) hc0 h0 h1, (beS_same s st x).1, (beS_same s st x).2⟩
    · exact ⟨h.mono (by omega) (by omega), rfl, rfl⟩
  rw [hr]
  have hS := hR.1.sync
  obtain ⟨_, _, q3, q4, _⟩ := syS_same r.1 r.2
  split
  · exact hS.mono (Nat.le_refl _) (by omega)
  rename_i h2
  have h20 := Decidable.not_not.1 h2
  obtain ⟨p1, p2, p3, p4, p5, ⟨kk, p6⟩, p7⟩ := frF_all (syS r.1 r.2).1.old.length (s := (syS r.1 r.2).1) (st := (syS r.1 r.2).2) (x := x) hS.pd h20 hS.fit
  have hol := hS.old
  have hfit : FitS (frF (syS r.1 r.2).1.old.length (syS r.1 r.2).1 (syS r.1 r.2).2 x).2 R (i + k + 1800) := fit_mono p7 (by omega)
  have hold : (frF (syS r.1 r.2).1.old.length (syS r.1 r.2).1 (syS r.1 r.2).2 x).1.old.length ≤ k + 1 := by rw [p6, List.length_drop]; omega
  have holds : ∀ y ∈ (frF (syS r.1 r.2).1.old.length (syS r.1 r.2).1 (syS r.1 r.2).2 x).1.old, 0 ≤ y.1 ∧ y.1 < 2305843009213693952 := fun y hy => by rw [p6] at hy; exact hS.olds y (List.mem_of_mem_drop hy)
  split
  · exact ⟨p1, fun hc' q hq => hS.opn h20 q (p2 ▸ hq), by rw [p3]; exact hS.next, by rw [p5]; exact hS.first, by rw [p5, p4]; exact hS.top, by rw [p4]; exact hS.len, hold, holds, by rw [p4]; exact hS.by8, fun q hq => hS.nu q (p2 ▸ hq), hfit⟩
  · rename_i h3
    refine ⟨p1, fun hc' q hq => hS.opn h20 q (p2 ▸ hq), by show 0 ≤ (frF _ _ _ _).1.next ∧ _; rw [p3]; exact hS.next, h0, ?_, ?_, hold, holds, fun l hl => ?_, fun q hq => hS.nu q (p2 ▸ hq), hfit⟩
    · show x + ((List.drop _ (frF _ _ _ _).1.L).length : Int) ≤ _
      rw [p4, q4, hR.2.2, List.length_drop]
      have := h.top; have := h.first
      omega
    · show (List.drop _ (frF _ _ _ _).1.L).length ≤ _
      rw [p4, List.length_drop]
      have := hS.len; omega
    · have hl2 : l ∈ List.drop (x - s.first).toNat (frF (syS r.1 r.2).1.old.length (syS r.1 r.2).1 (syS r.1 r.2).2 x).1.L := hl
      rw [p4] at hl2
      exact hS.by8 l (List.mem_of_mem_drop hl2)
theorem Inv.does {s : LSt} {st : DSt} {R kd n : Int} {b : List Int} {k i : Nat} (h : Inv s st R k i) (hk : k ≤ 1999990) (hb : By8 b) : Inv (doesS s st kd n b).1 (doesS s st kd n b).2.1 R (k + 1) (i + k + 1800) := by
  have hx : 0 ≤ IntKind.u64.wrap (s.first + IntKind.u64.wrap n) ∧ IntKind.u64.wrap (s.first + IntKind.u64.wrap n) < 18446744073709551616 := by rw [IntKind.wrap_u64]; omega
  unfold doesS
  simp only
  split
  · exact (h.append hk hb).mono (Nat.le_refl _) (by omega)
  split
  · exact h.sync.mono (by omega) (by omega)
  split
  · exact (h.trunc hk hx.1 hx.2).mono (Nat.le_refl _) (by omega)
  split
  · exact h.comp hk hx.1 hx.2
  · exact h.mono (by omega) (by omega)
end Go.Proofs.YtcpkpljeimbdiaaGreat.W
