/-
  What write does.
-/
import Derived.Test.YtcpkpljeimbdiaaWalApp
namespace Go.Proofs.Ytcpkpljeimbdiaa.W
open Go.RowKit
open Aid K
set_option linter.unusedSimpArgs false
set_option linter.unusedVariables false

/-- the sector that is written of what stands in the next one -/
def secW (rest : List Int) : List Int := ((min rest.length 63 : Nat) : Int) :: rest.take 63
/-- write, while the disk gives no error: the disk, how many sectors are full, what stands in the next one, the error -/
noncomputable def wrF (a : Int) : Nat → DSt → Nat → List Int → DSt × Nat × List Int × Int
  | 0, st, full, rest => (st, full, rest, 0)
  | f + 1, st, full, rest =>
    if doE st 0 a full (secW rest) ≠ 0 ∨ rest.length < 63 then (doS st 0 a full (secW rest), full, rest, doE st 0 a full (secW rest))
    else if rest.drop 63 = [] then (doS st 0 a full (secW rest), full + 1, [], 0) else wrF a f (doS st 0 a full (secW rest)) (full + 1) (rest.drop 63)
theorem secW_len (rest : List Int) : (secW rest).length ≤ 64 := by
  unfold secW; rw [List.length_cons, List.length_take]; omega
theorem secW_by {rest : List Int} (h : By8 rest) : By8 (secW rest) := by
  intro x hx
  unfold secW at hx
  rcases List.mem_cons.1 hx with rfl | hx
  · omega
  · exact h x (List.mem_of_mem_take hx)
/-- write -/
noncomputable def wrS (s : LSt) (st : DSt) (b : List Int) : LSt × DSt :=
  match s.opn with
  | none => (s, st)
  | some q =>
    let r := wrF (4 * q.nu + 1) (q.rest.length + b.length) st q.fu (q.rest ++ b)
    ({ s with opn := some { q with fu := r.2.1, rest := r.2.2.1 }, code := r.2.2.2 }, r.1)
/-- the cells of the segment that is written are turned -/
theorem WalIn.opn_turn {O Q P : Nat → Prop} {w w' : World} {g p o : Nat} {s : LSt} {q q' : Opn} {rv rv' lv oldv : Value} (h : WalIn O Q w g p s (.pointer (some ⟨o, 0, none⟩)) lv oldv) (hO : ∀ k, O k → k < w.heap.size)
    (hb0 : Blk w o 96 (openV q.nu q.ix q.fu rv)) (hqo : Q o) (hr0 : OffRow w 5 1 rv q.rest.length (q.rest.map (.int .u8))) (hrq : ∀ k, rv.ownBlock = some k → Q k)
    (hK : Keeps P w w') (hP : ∀ k, P k → rv.ownBlock = some k ∨ k = o)
    (hb : Blk w' o 96 (openV q'.nu q'.ix q'.fu rv')) (hr : OffRow w' 5 1 rv' q'.rest.length (q'.rest.map (.int .u8))) (hn : ∀ k, rv'.ownBlock = some k → Q k ∨ w.heap.size ≤ k) :
    WalIn O (fun k => Q k ∨ rv'.ownBlock = some k) w' g p { s with opn := some q' } (.pointer (some ⟨o, 0, none⟩)) lv oldv := by
  have hPQ : ∀ k, P k → Q k := fun k hk => by
    rcases hP k hk with h1 | rfl
    · exact hrq k h1
    · exact hqo
  have hsz := hK.size
  refine ⟨?_, .inl h.qg, ⟨o, rv', rfl, hb, .inl hqo, hr, fun k hk => .inr hk⟩, ?_, fun k hk => .inl (h.ql k hk), ?_, fun k hk => .inl (h.qs k hk), fun k hk => ?_, fun k hk ho => ?_⟩
  · refine blk_keep h.blk hK (fun hp => ?_)
    rcases hP g hp with h1 | h1
    · exact offrow_ne h.blk hr0 (by decide) g h1 rfl
    · exact blk_ne h.blk hb0 (by decide) h1.symm
  · obtain ⟨vs, hv⟩ := h.recs
    refine ⟨vs, hv.keep hK (fun k hk hp => ?_) (fun k hk => .inr (hPQ k hk)) (fun k hk => ?_)⟩
    · rcases hP k hp with h1 | h1
      · exact offrow_ne2 hr0 hv.row (by decide) k h1 k hk rfl
      · exact offrow_ne hb0 hv.row (by decide) k hk h1
    · rcases hk with hk | hk | hk
      · exact .inl (.inl hk)
      · exact .inl (.inr hk)
      · rcases hn k hk with h1 | h1
        · exact .inl (.inr h1)
        · exact .inr h1
  · refine h.segs.keep hK (fun k hk hp => ?_)
    rcases hP k hp with h1 | h1
    · exact offrow_ne2 hr0 h.segs (by decide) k h1 k hk rfl
    · exact offrow_ne hb0 h.segs (by decide) k hk h1
  · rcases hk with hk | hk
    · have := h.lt k hk; omega
    · exact hr.lt k hk
  · rcases hk with hk | hk
    · exact h.apart k hk ho
    · rcases hn k hk with h1 | h1
      · exact h.apart k h1 ho
      · have := hO k ho; omega
/-- within the loop of write -/
structure WrAt (O Q : Nat → Prop) (g p o : Nat) (s : LSt) (q : Opn) (lv oldv : Value) (w : World) (st : DSt) (fu : Nat) (r : List Int) (O' Q' : Nat → Prop) (rv : Value) (wr : World) : Prop where
  wal : WalIn O' Q' wr g p { s with opn := some { q with fu := fu, rest := r } } (.pointer (some ⟨o, 0, none⟩)) lv oldv
  blk : Blk wr o 96 (openV q.nu q.ix fu rv)
  qo : Q' o
  row : OffRow wr 5 1 rv r.length (r.map (.int .u8))
  qr : ∀ k, rv.ownBlock = some k → Q' k
  disk : DiskIs O' wr p st
  olt : ∀ k, O' k → k < wr.heap.size
  grow : ∀ k, O' k ∨ Q' k → (O k ∨ Q k) ∨ w.heap.size ≤ k
  keep : Keeps (fun k => O k ∨ Q k) w wr
theorem WrAt.start {O Q : Nat → Prop} {g p o : Nat} {s : LSt} {q : Opn} {lv oldv rv v1 : Value} {w w1 : World} {st : DSt} {b : List Int} (hW : WalIn O Q w g p s (.pointer (some ⟨o, 0, none⟩)) lv oldv) (hO : ∀ k, O k → k < w.heap.size) (hD : DiskIs O w p st)
    (hB : Blk w o 96 (openV q.nu q.ix q.fu rv)) (hqo : Q o) (hrow : OffRow w 5 1 rv q.rest.length (q.rest.map (.int .u8))) (hqr : ∀ k, rv.ownBlock = some k → Q k)
    (hoff : OffRow w1 5 1 v1 (q.rest ++ b).length ((q.rest ++ b).map (.int .u8))) (hK1 : Keeps (fun k => rv.ownBlock = some k) w w1) (hown : ∀ k, v1.ownBlock = some k → rv.ownBlock = some k ∨ w.heap.size ≤ k) :
    WrAt O Q g p o s q lv oldv w st q.fu (q.rest ++ b) O (fun k => Q k ∨ v1.ownBlock = some k) v1 (w1.setCell ⟨o, 3, none⟩ v1) := by
  have hB1 := blk_keep hB hK1 (fun hk => offrow_ne hB hrow (by decide) o hk rfl)
  have hB2 : Blk (w1.setCell ⟨o, 3, none⟩ v1) o 96 (openV q.nu q.ix q.fu v1) := hB1.set 3 v1
  have hK2 : Keeps (fun k => k = o) w1 (w1.setCell ⟨o, 3, none⟩ v1) := set_keeps (Keeps.refl _ _) rfl (StrRow.no_blk hB1 (by decide))
  have hK : Keeps (fun k => rv.ownBlock = some k ∨ k = o) w (w1.setCell ⟨o, 3, none⟩ v1) := (keeps_mono hK1 (fun k hk => .inl hk)).trans hK2 (fun k hk => .inl (.inr hk))
  have hoff2 := hoff.keep hK2 (fun k hk e => offrow_ne hB1 hoff (by decide) k hk e)
  have hPQ : ∀ k, (rv.ownBlock = some k ∨ k = o) → Q k := fun k hk => by
    rcases hk with hk | hk
    · exact hqr k hk
    · exact hk ▸ hqo
  have hwal := hW.opn_turn (q' := { q with fu := q.fu, rest := q.rest ++ b }) hO hB hqo hrow hqr hK (fun k hk => hk) hB2 hoff2 (fun k hk => by
    rcases hown k hk with h | h
    · exact .inl (hqr k h)
    · exact .inr h)
  refine ⟨hwal, hB2, .inl hqo, hoff2, fun k hk => .inr hk, hD.keep hK (fun k hk hp => hW.apart k (hPQ k hp) hk), fun k hk => by have := hO k hk; have := hK.size; omega, fun k hk => ?_, keeps_mono hK (fun k hk => .inr (hPQ k hk))⟩
  rcases hk with hk | hk | hk
  · exact .inl (.inl hk)
  · exact .inl (.inr hk)
  · rcases hown k hk with h | h
    · exact .inl (.inr (hqr k h))
    · exact .inr h
theorem WrAt.below {O Q O' Q' : Nat → Prop} {g p o : Nat} {s : LSt} {q : Opn} {lv oldv rv : Value} {w wr w2 : World} {st : DSt} {fu : Nat} {r : List Int} (h : WrAt O Q g p o s q lv oldv w st fu r O' Q' rv wr) (hb : Below wr.heap.size wr w2) : WrAt O Q g p o s q lv oldv w st fu r O' Q' rv w2 :=
  ⟨h.wal.below hb, blk_keep (O := fun _ => False) h.blk (Keeps.of_below hb) (fun h => h), h.qo, h.row.keep (O := fun _ => False) (Keeps.of_below hb) (fun _ _ h => h), h.qr, h.disk.below hb, fun k hk => by have := h.olt k hk; have := hb.size; omega, h.grow, h.keep.trans (O' := fun _ => False) (Keeps.of_below hb) (fun _ hk => hk.elim)⟩
/-- the disk is asked, the code is kept -/
theorem WrAt.call {O Q O' Q' O2 : Nat → Prop} {g p o : Nat} {s : LSt} {q : Opn} {lv oldv rv : Value} {w wr w2 w3 : World} {st st2 : DSt} {fu : Nat} {r : List Int} {E : Int} (h : WrAt O Q g p o s q lv oldv w st fu r O' Q' rv wr)
    (hK : Keeps O' wr w2) (hD : DiskIs O2 w2 p st2) (hO2 : ∀ k, O2 k → O' k ∨ (wr.heap.size ≤ k ∧ k < w2.heap.size)) (hB : Blk w3 g 77 (walV (.pointer (some ⟨o, 0, none⟩)) p s.first lv oldv s.next E)) (hK3 : Keeps (fun k => k = g) w2 w3) (hs3 : w3.heap.size = w2.heap.size) :
    WrAt O Q g p o { s with code := E } q lv oldv w st2 fu r O2 Q' rv w3 := by
  have hKK : Keeps (fun k => O' k ∨ k = g) wr w3 := (keeps_mono hK (fun k hk => .inl hk)).trans hK3 (fun k hk => .inl (.inr hk))
  have hsz := hK.size
  have hgQ : Q' g := h.wal.qg
  have hng : ∀ k, (O' k ∨ k = g) → k = o → False := fun k hk e => by
    subst e
    rcases hk with hk | hk
    · exact h.wal.apart k h.qo hk
    · exact blk_ne h.wal.blk h.blk (by decide) hk
  have hnr : ∀ k, rv.ownBlock = some k → ¬ (O' k ∨ k = g) := fun k hk hp => by
    rcases hp with hp | hp
    · exact h.wal.apart k (h.qr k hk) hp
    · exact offrow_ne h.wal.blk h.row (by decide) k hk hp
  refine ⟨h.wal.calls hKK (fun k hk => hk) (fun k hk => ?_) hB rfl rfl rfl, blk_keep h.blk hKK (fun hp => hng o hp rfl), h.qo, h.row.keep hKK hnr, h.qr, hD.keep hK3 (fun k hk e => ?_), fun k hk => ?_, fun k hk => ?_, h.keep.trans hKK (fun k hk => ?_)⟩
  · rcases hO2 k hk with h1 | h1
    · exact .inl h1
    · exact .inr h1.1
  · subst e
    rcases hO2 k hk with h1 | h1
    · exact h.wal.apart k hgQ h1
    · have := h.wal.lt k hgQ; omega
  · rcases hO2 k hk with h1 | h1
    · have := h.olt k h1; omega
    · omega
  · rcases hk with hk | hk
    · rcases hO2 k hk with h1 | h1
      · exact h.grow k (.inl h1)
      · have := h.keep.size; exact .inr (by omega)
    · exact h.grow k (.inr hk)
  · rcases hk with hk | hk
    · exact h.grow k (.inl hk)
    · exact h.grow k (.inr (hk ▸ hgQ))
/-- what stands in the next sector is set -/
theorem WrAt.turn {O Q O' Q' : Nat → Prop} {g p o : Nat} {s : LSt} {q : Opn} {lv oldv rv v' x : Value} {w wr : World} {st : DSt} {fu fu' k : Nat} {r r' : List Int} (h : WrAt O Q g p o s q lv oldv w st fu r O' Q' rv wr)
    (hB : Blk (wr.setCell ⟨o, k, none⟩ x) o 96 (openV q.nu q.ix fu' v')) (hd : OffRow wr 5 1 v' r'.length (r'.map (.int .u8))) (hown : ∀ x, v'.ownBlock = some x → Q' x) :
    WrAt O Q g p o s q lv oldv w st fu' r' O' Q' v' (wr.setCell ⟨o, k, none⟩ x) := by
  have hK : Keeps (fun k => k = o) wr (wr.setCell ⟨o, k, none⟩ x) := set_keeps (Keeps.refl _ _) rfl (StrRow.no_blk h.blk (by decide))
  have hd2 := hd.keep hK (fun x hx e => offrow_ne h.blk hd (by decide) x hx e)
  have hwal := h.wal.opn_turn (q := { q with fu := fu, rest := r }) (q' := { q with fu := fu', rest := r' }) h.olt h.blk h.qo h.row h.qr hK (fun x hx => .inr hx) hB hd2 (fun x hx => .inl (hown x hx))
  have hQ : (fun x => Q' x ∨ v'.ownBlock = some x) = Q' := by
    funext x
    exact propext ⟨fun hx => by rcases hx with hx | hx; exact hx; exact hown x hx, fun hx => .inl hx⟩
  rw [hQ] at hwal
  exact ⟨hwal, hB, h.qo, hd2, hown, h.disk.keep hK (fun k hk e => h.wal.apart k (e ▸ h.qo) hk), fun k hk => by have := h.olt k hk; have := hK.size; omega, h.grow, h.keep.trans hK (fun k hk => h.grow k (.inr (hk ▸ h.qo)))⟩
/-- a sector is full -/
theorem WrAt.inc {O Q O' Q' : Nat → Prop} {g p o : Nat} {s : LSt} {q : Opn} {lv oldv rv : Value} {w wr : World} {st : DSt} {fu : Nat} {r : List Int} (h : WrAt O Q g p o s q lv oldv w st fu r O' Q' rv wr) :
    WrAt O Q g p o s q lv oldv w st (fu + 1) r O' Q' rv (wr.setCell ⟨o, 2, none⟩ (.int .i64 ((fu + 1 : Nat) : Int))) := h.turn (h.blk.set 2 _) h.row h.qr
theorem WrAt.drop {O Q O' Q' : Nat → Prop} {g p o : Nat} {s : LSt} {q : Opn} {lv oldv : Value} {w wr : World} {st : DSt} {fu n c k b off : Nat} {r : List Int} (h : WrAt O Q g p o s q lv oldv w st fu r O' Q' (.slice (some ⟨b, off, none⟩) n c) wr) (hn : n = r.length) (hk : k ≤ n) :
    WrAt O Q g p o s q lv oldv w st fu (r.drop k) O' Q' (.slice (some ⟨b, off + k, none⟩) (n - k) (c - k)) (wr.setCell ⟨o, 3, none⟩ (.slice (some ⟨b, off + k, none⟩) (n - k) (c - k))) := by
  subst hn
  refine h.turn (h.blk.set 3 _) ?_ (fun x hx => h.qr x hx)
  have hd := OffRow.drop h.row hk
  rw [Nat.mul_one, ← List.map_drop] at hd
  rw [List.length_drop]
  simpa [add_any] using hd
theorem WrAt.none {O Q O' Q' : Nat → Prop} {g p o : Nat} {s : LSt} {q : Opn} {lv oldv : Value} {w wr : World} {st : DSt} {fu n c b off : Nat} {r : List Int} (h : WrAt O Q g p o s q lv oldv w st fu r O' Q' (.slice (some ⟨b, off, none⟩) n c) wr) :
    WrAt O Q g p o s q lv oldv w st fu [] O' Q' (.slice (some ⟨b, off, none⟩) 0 0) (wr.setCell ⟨o, 3, none⟩ (.slice (some ⟨b, off, none⟩) 0 0)) := by
  refine h.turn (h.blk.set 3 _) ?_ (fun x hx => h.qr x hx)
  obtain ⟨h1, ⟨h2, _⟩ | ⟨b', off', cap, cur, h2, hb, h3, h4, h5, h6⟩⟩ := h.row
  · cases h2
  · cases h2
    exact ⟨rfl, .inr ⟨b, off, 0, cur, rfl, hb, Nat.le_refl _, Nat.zero_le _, by omega, fun j u hj => by cases hj⟩⟩
theorem WrAt.log {O Q O' Q' : Nat → Prop} {g p o : Nat} {s : LSt} {q : Opn} {lv oldv rv : Value} {w wr : World} {st : DSt} {fu : Nat} {r : List Int} (h : WrAt O Q g p o s q lv oldv w st fu r O' Q' rv wr) : LogAt O Q w g p { s with opn := some { q with fu := fu, rest := r } } st O' Q' wr :=
  ⟨⟨_, _, _, h.wal⟩, h.disk, h.olt, h.grow, h.keep⟩
theorem offrow_ints {w : World} {v : Value} {l : List Int} (h : OffRow w 5 1 v l.length (l.map (.int .u8))) (hl : l.length ≤ 140737488355328) : Ints w .u8 v l := by
  obtain ⟨_, ⟨rfl, h0⟩ | ⟨b, off, cap, cur, rfl, hb, h1, h2, h3, h4⟩⟩ := h
  · rw [List.eq_nil_of_length_eq_zero h0]; exact Ints.nil _ _
  · refine ⟨by omega, .inr ⟨b, off, cap, rfl, Blk.lt hb, fun j hj => ?_⟩⟩
    refine (hb.cell _).trans (h4 j _ ?_)
    rw [List.getElem?_map, List.getElem?_eq_getElem hj, List.getD_eq_getElem?_getD, List.getElem?_eq_getElem hj]
    rfl
theorem openV_at {w : World} {o : Nat} {nu ix : Int} {fu : Nat} {rv : Value} (h : Blk w o 96 (openV nu ix fu rv)) :
    w.cell? ⟨o, 0, none⟩ = some (.int .u64 nu) ∧ w.cell? ⟨o, 1, none⟩ = some (.int .u64 ix) ∧ w.cell? ⟨o, 2, none⟩ = some (.int .i64 fu) ∧ w.cell? ⟨o, 3, none⟩ = some rv ∧ w.frozen? ⟨o, 2, none⟩ = false ∧ w.frozen? ⟨o, 3, none⟩ = false :=
  ⟨h.cell 0, h.cell 1, h.cell 2, h.cell 3, h.free 2, h.free 3⟩
def msrO (o : Nat) (wr : World) : Nat := match wr.cell? ⟨o, 3, none⟩ with | some (.slice _ n _) => n | _ => 0
end Go.Proofs.Ytcpkpljeimbdiaa.W
