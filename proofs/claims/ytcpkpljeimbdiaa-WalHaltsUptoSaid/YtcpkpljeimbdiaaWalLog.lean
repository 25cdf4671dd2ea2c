/-
  A log in memory.
-/
import Derived.Test.YtcpkpljeimbdiaaWalFrd
namespace Go.Proofs.Ytcpkpljeimbdiaa.W
open Go.RowKit
open Aid K
set_option linter.unusedSimpArgs false
set_option linter.unusedVariables false

/-- the segment that is written -/
structure Opn where
  nu : Int
  ix : Int
  fu : Nat
  rest : List Int
/-- a log -/
structure LSt where
  opn : Option Opn
  first : Int
  L : List (List Int)
  old : List (Int × Int)
  next : Int
  code : Int
def openV (nu ix : Int) (fu : Nat) (rv : Value) : Array Value := #[.int .u64 nu, .int .u64 ix, .int .i64 fu, rv]
def OpnIs (Q : Nat → Prop) (w : World) (ov : Value) : Option Opn → Prop
  | none => ov = .pointer none
  | some q => ∃ o rv, ov = .pointer (some ⟨o, 0, none⟩) ∧ Blk w o 96 (openV q.nu q.ix q.fu rv) ∧ Q o ∧ OffRow w 5 1 rv q.rest.length (q.rest.map (.int .u8)) ∧ ∀ k, rv.ownBlock = some k → Q k
/-- it in memory: O are the disk's blocks, Q those that the log turns -/
structure WalIn (O Q : Nat → Prop) (w : World) (g p : Nat) (s : LSt) (ov lv oldv : Value) : Prop where
  blk : Blk w g 77 (walV ov p s.first lv oldv s.next s.code)
  qg : Q g
  opn : OpnIs Q w ov s.opn
  recs : ∃ vs, Recs (fun k => O k ∨ Q k) w lv s.L vs
  ql : ∀ k, lv.ownBlock = some k → Q k
  segs : Segs w oldv s.old
  qs : ∀ k, oldv.ownBlock = some k → Q k
  lt : ∀ k, Q k → k < w.heap.size
  apart : ∀ k, Q k → ¬ O k
def WalIs (O Q : Nat → Prop) (w : World) (g p : Nat) (s : LSt) : Prop := ∃ ov lv oldv, WalIn O Q w g p s ov lv oldv
/-- a log and its disk behind calls -/
structure LogAt (O Q : Nat → Prop) (w : World) (g p : Nat) (s : LSt) (st : DSt) (O' Q' : Nat → Prop) (w' : World) : Prop where
  wal : WalIs O' Q' w' g p s
  disk : DiskIs O' w' p st
  olt : ∀ k, O' k → k < w'.heap.size
  grow : ∀ k, O' k ∨ Q' k → (O k ∨ Q k) ∨ w.heap.size ≤ k
  keep : Keeps (fun k => O k ∨ Q k) w w'
/-- a call on a log -/
def LogEnd (O Q : Nat → Prop) (g p : Nat) (r : Int) (s' : LSt) (st' : DSt) (w : World) (e : Ending) (w' : World) : Prop :=
  e = .returned (.int .i64 r) ∧ ∃ O' Q', LogAt O Q w g p s' st' O' Q' w'
theorem blk_keep {O : Nat → Prop} {w w' : World} {s : Nat} {t : TypeId} {cs : Array Value} (h : Blk w s t cs) (hK : Keeps O w w') (hs : ¬ O s) : Blk w' s t cs := by
  have hl := Blk.lt h
  unfold Blk at h ⊢; rw [hK.block s hl hs]; exact h
theorem offrow_ne {w : World} {g : Nat} {T T' : TypeId} {size n : Nat} {cs : Array Value} {v : Value} {xs : List Value} (h : Blk w g T cs) (h' : OffRow w T' size v n xs) (hT : T ≠ T') : ∀ k, v.ownBlock = some k → k ≠ g := by
  intro k hk
  obtain ⟨_, ⟨rfl, _⟩ | ⟨b, off, cap, cur, rfl, hb, _⟩⟩ := h'
  · cases hk
  · cases hk; exact blk_ne h hb hT
theorem offrow_ne2 {w : World} {T T' : TypeId} {size n size' n' : Nat} {v v' : Value} {xs xs' : List Value} (h : OffRow w T size v n xs) (h' : OffRow w T' size' v' n' xs') (hT : T ≠ T') : ∀ k, v.ownBlock = some k → ∀ k', v'.ownBlock = some k' → k' ≠ k := by
  intro k hk
  obtain ⟨_, ⟨rfl, _⟩ | ⟨b, off, cap, cur, rfl, hb, _⟩⟩ := h
  · cases hk
  · cases hk; exact offrow_ne hb h' hT
theorem ints_kept2 {k : IntKind} {P : Nat → Prop} {w w' : World} {v : Value} {l : List Int} (h : Ints w k v l) (hK : Keeps P w w') (hP : ∀ b, v.ownBlock = some b → ¬ P b) : Ints w' k v l := by
  refine ⟨h.1, ?_⟩
  rcases h.2 with h1 | ⟨b, off, cap, hv, hlt, hc⟩
  · exact .inl h1
  · subst hv
    exact .inr ⟨b, off, cap, rfl, by have := hK.size; omega, fun j hj => (hK.cell (p := ⟨b, off + j, none⟩) hlt (hP b rfl)).trans (hc j hj)⟩
theorem Recs.keep {Q Q' P : Nat → Prop} {w w' : World} {lv : Value} {L : List (List Int)} {vs : List Value} (h : Recs Q w lv L vs) (hK : Keeps P w w') (hl : ∀ k, lv.ownBlock = some k → ¬ P k) (hP : ∀ k, P k → Q k) (hQ : ∀ k, Q' k → Q k ∨ w.heap.size ≤ k) : Recs Q' w' lv L vs := by
  refine ⟨h.len, h.row.keep hK hl, fun j v l hv hL => ?_⟩
  obtain ⟨h1, h2⟩ := h.ints j v l hv hL
  refine ⟨ints_kept2 h1 hK (fun b hb hp => (h2 b hb).1 (hP b hp)), fun k hk => ⟨fun hq => ?_, by have := (h2 k hk).2; have := hK.size; omega⟩⟩
  rcases hQ k hq with h3 | h3
  · exact (h2 k hk).1 h3
  · have := (h2 k hk).2; omega
theorem OpnIs.keep {Q P : Nat → Prop} {w w' : World} {ov : Value} {q : Option Opn} (h : OpnIs Q w ov q) (hK : Keeps P w w') (hP : ∀ k, Q k → ¬ P k) : OpnIs Q w' ov q := by
  cases q with
  | none => exact h
  | some q =>
    obtain ⟨o, rv, h1, h2, h3, h4, h5⟩ := h
    exact ⟨o, rv, h1, blk_keep h2 hK (hP o h3), h3, h4.keep hK (fun k hk => hP k (h5 k hk)), h5⟩
/-- a call on the disk leaves the log -/
theorem WalIn.disk {O O' Q P : Nat → Prop} {w w' : World} {g p : Nat} {s : LSt} {ov lv oldv : Value} (h : WalIn O Q w g p s ov lv oldv) (hK : Keeps P w w') (hP : ∀ k, P k → O k) (hO : ∀ k, O' k → O k ∨ w.heap.size ≤ k) : WalIn O' Q w' g p s ov lv oldv where
  blk := blk_keep h.blk hK (fun hp => h.apart g h.qg (hP _ hp))
  qg := h.qg
  opn := h.opn.keep hK (fun k hk hp => h.apart k hk (hP _ hp))
  recs := by
    obtain ⟨vs, hr⟩ := h.recs
    refine ⟨vs, hr.keep hK (fun k hk hp => h.apart k (h.ql k hk) (hP _ hp)) (fun k hk => .inl (hP k hk)) (fun k hk => ?_)⟩
    rcases hk with hk | hk
    · rcases hO k hk with h1 | h1
      · exact .inl (.inl h1)
      · exact .inr h1
    · exact .inl (.inr hk)
  ql := h.ql
  segs := h.segs.keep hK (fun k hk hp => h.apart k (h.qs k hk) (hP _ hp))
  qs := h.qs
  lt := fun k hk => by have := h.lt k hk; have := hK.size; omega
  apart := fun k hk ho => by
    rcases hO k ho with h1 | h1
    · exact h.apart k hk h1
    · have := h.lt k hk; omega
theorem WalIn.below {O Q : Nat → Prop} {w w' : World} {g p : Nat} {s : LSt} {ov lv oldv : Value} (h : WalIn O Q w g p s ov lv oldv) (hb : Below w.heap.size w w') : WalIn O Q w' g p s ov lv oldv :=
  h.disk (P := fun _ => False) (Keeps.of_below hb) (fun _ hk => hk.elim) (fun _ hk => .inl hk)
/-- cells of the log itself are turned -/
theorem WalIn.turn {O Q : Nat → Prop} {w w' : World} {g p : Nat} {s s' : LSt} {ov lv oldv : Value} (h : WalIn O Q w g p s ov lv oldv) (hK : Keeps (fun k => k = g) w w') (hs : w'.heap.size = w.heap.size) (hb : Blk w' g 77 (walV ov p s'.first lv oldv s'.next s'.code)) (h1 : s'.opn = s.opn) (h2 : s'.L = s.L) (h3 : s'.old = s.old) : WalIn O Q w' g p s' ov lv oldv where
  blk := hb
  qg := h.qg
  opn := by
    rw [h1]
    have ho := h.opn
    cases hq : s.opn with
    | none => rw [hq] at ho; exact ho
    | some q =>
      rw [hq] at ho
      obtain ⟨o, rv, e1, e2, e3, e4, e5⟩ := ho
      exact ⟨o, rv, e1, blk_keep e2 hK (blk_ne h.blk e2 (by decide)), e3, e4.keep hK (fun k hk e => offrow_ne h.blk e4 (by decide) k hk e), e5⟩
  recs := by
    obtain ⟨vs, hr⟩ := h.recs
    rw [h2]
    exact ⟨vs, hr.keep hK (fun k hk e => offrow_ne h.blk hr.row (by decide) k hk e) (fun k hk => .inr (hk ▸ h.qg)) (fun k hk => .inl hk)⟩
  ql := h.ql
  segs := by rw [h3]; exact h.segs.keep hK (fun k hk e => offrow_ne h.blk h.segs (by decide) k hk e)
  qs := h.qs
  lt := fun k hk => by have := h.lt k hk; omega
  apart := h.apart
theorem LogAt.refl {O Q : Nat → Prop} {w : World} {g p : Nat} {s : LSt} {st : DSt} (h : WalIs O Q w g p s) (hD : DiskIs O w p st) (hO : ∀ k, O k → k < w.heap.size) : LogAt O Q w g p s st O Q w := ⟨h, hD, hO, fun _ hk => .inl hk, Keeps.refl _ _⟩
theorem LogAt.trans {O Q O' Q' O2 Q2 : Nat → Prop} {w w' w2 : World} {g p : Nat} {s s2 : LSt} {st st2 : DSt} (h : LogAt O Q w g p s st O' Q' w') (h2 : LogAt O' Q' w' g p s2 st2 O2 Q2 w2) : LogAt O Q w g p s2 st2 O2 Q2 w2 :=
  ⟨h2.wal, h2.disk, h2.olt, fun k hk => by
    rcases h2.grow k hk with h3 | h3
    · exact h.grow k h3
    · have := h.keep.size; exact .inr (by omega), h.keep.trans h2.keep (fun k hk => h.grow k hk)⟩
/-- new memory alone -/
theorem LogAt.below {O Q O' Q' : Nat → Prop} {w w' w2 : World} {g p : Nat} {s : LSt} {st : DSt} (h : LogAt O Q w g p s st O' Q' w') (hb : Below w'.heap.size w' w2) : LogAt O Q w g p s st O' Q' w2 := by
  have hs := hb.size
  refine ⟨?_, h.disk.below hb, fun k hk => by have := h.olt k hk; omega, h.grow, h.keep.trans (O' := fun _ => False) (Keeps.of_below hb) (fun _ hk => hk.elim)⟩
  obtain ⟨ov, lv, oldv, hw⟩ := h.wal
  exact ⟨ov, lv, oldv, hw.below hb⟩
/-- the disk is asked, the log's own cells are turned -/
theorem WalIn.calls {O O' Q P : Nat → Prop} {w w' : World} {g p : Nat} {s s' : LSt} {ov lv oldv : Value} (h : WalIn O Q w g p s ov lv oldv) (hK : Keeps P w w') (hP : ∀ k, P k → O k ∨ k = g) (hO : ∀ k, O' k → O k ∨ w.heap.size ≤ k)
    (hb : Blk w' g 77 (walV ov p s'.first lv oldv s'.next s'.code)) (h1 : s'.opn = s.opn) (h2 : s'.L = s.L) (h3 : s'.old = s.old) : WalIn O' Q w' g p s' ov lv oldv where
  blk := hb
  qg := h.qg
  opn := by
    rw [h1]
    have ho := h.opn
    cases hq : s.opn with
    | none => rw [hq] at ho; exact ho
    | some q =>
      rw [hq] at ho
      obtain ⟨o, rv, e1, e2, e3, e4, e5⟩ := ho
      refine ⟨o, rv, e1, blk_keep e2 hK (fun hp => ?_), e3, e4.keep hK (fun k hk hp => ?_), e5⟩
      · rcases hP o hp with h4 | h4
        · exact h.apart o e3 h4
        · exact blk_ne h.blk e2 (by decide) h4
      · rcases hP k hp with h4 | h4
        · exact h.apart k (e5 k hk) h4
        · exact offrow_ne h.blk e4 (by decide) k hk h4
  recs := by
    obtain ⟨vs, hr⟩ := h.recs
    rw [h2]
    refine ⟨vs, hr.keep hK (fun k hk hp => ?_) (fun k hk => ?_) (fun k hk => ?_)⟩
    · rcases hP k hp with h4 | h4
      · exact h.apart k (h.ql k hk) h4
      · exact offrow_ne h.blk hr.row (by decide) k hk h4
    · rcases hP k hk with h4 | h4
      · exact .inl h4
      · exact .inr (h4 ▸ h.qg)
    · rcases hk with hk | hk
      · rcases hO k hk with h4 | h4
        · exact .inl (.inl h4)
        · exact .inr h4
      · exact .inl (.inr hk)
  ql := h.ql
  segs := by
    rw [h3]
    refine h.segs.keep hK (fun k hk hp => ?_)
    rcases hP k hp with h4 | h4
    · exact h.apart k (h.qs k hk) h4
    · exact offrow_ne h.blk h.segs (by decide) k hk h4
  qs := h.qs
  lt := fun k hk => by have := h.lt k hk; have := hK.size; omega
  apart := fun k hk ho => by
    rcases hO k ho with h4 | h4
    · exact h.apart k hk h4
    · have := h.lt k hk; omega
/-- Sync of a log -/
noncomputable def syS (s : LSt) (st : DSt) : LSt × DSt :=
  if s.code ≠ 0 then (s, st) else match s.opn with
  | none => (s, st)
  | some q => ({ s with code := doE st 1 (4 * q.nu + 1) 0 [] }, doS st 1 (4 * q.nu + 1) 0 [])
theorem sync_log (O Q : Nat → Prop) (g p : Nat) (s : LSt) (st : DSt) (R : Int) (i : Nat) (w : World) (hW : WalIs O Q w g p s) (hD : DiskIs O w p st) (hO : ∀ k, O k → k < w.heap.size) (hF : FitS st R i) (hi : i ≤ 4398046511103) (hR : R ≤ 9223372036854775807)
    (hn : ∀ q, s.opn = some q → 0 ≤ q.nu ∧ q.nu < 2305843009213693952) :
    Calls Try.prog 29 #[.pointer (some ⟨g, 0, none⟩)] w (LogEnd O Q g p (syS s st).1.code (syS s st).1 (syS s st).2 w) := by
  have hW0 := hW
  obtain ⟨ov, lv, oldv, hW⟩ := hW
  by_cases hc : s.code ≠ 0
  · have e : syS s st = (s, st) := by unfold syS; rw [if_pos hc]
    rw [e]
    have hov : ∃ a, ov = .pointer a := by
      have := hW.opn
      cases hq : s.opn with
      | none => rw [hq] at this; exact ⟨_, this⟩
      | some q => rw [hq] at this; obtain ⟨o, rv, e1, _⟩ := this; exact ⟨_, e1⟩
    refine (wsync_still g p ov s.first lv oldv s.next s.code w hW.blk (.inl hc) hov).mono ?_
    rintro e w' ⟨rfl, hb⟩
    exact ⟨rfl, O, Q, (LogAt.refl hW0 hD hO).below hb⟩
  · have hc0 : s.code = 0 := Decidable.not_not.1 hc
    cases hq : s.opn with
    | none =>
      have e : syS s st = (s, st) := by unfold syS; rw [if_neg hc, hq]
      rw [e]
      have ho := hW.opn
      rw [hq] at ho
      refine (wsync_still g p ov s.first lv oldv s.next s.code w hW.blk (.inr ho) ⟨_, ho⟩).mono ?_
      rintro e w' ⟨rfl, hb⟩
      exact ⟨rfl, O, Q, (LogAt.refl hW0 hD hO).below hb⟩
    | some q =>
      have e : syS s st = ({ s with code := doE st 1 (4 * q.nu + 1) 0 [] }, doS st 1 (4 * q.nu + 1) 0 []) := by unfold syS; rw [if_neg hc, hq]
      rw [e]
      have ho := hW.opn
      rw [hq] at ho
      obtain ⟨o, rv, rfl, e2, e3, e4, e5⟩ := ho
      have hb0 := hW.blk
      rw [hc0] at hb0
      refine (wsync_open O g o p st R i q.nu q.ix q.fu rv s.first lv oldv s.next w hb0 e2 hD hO (hW.apart g hW.qg) (hW.apart o e3) hF hi hR (hn q hq).1 (by have := (hn q hq).2; omega)).mono ?_
      rintro x w' ⟨rfl, hB, hK, O', hD', hO'⟩
      have hcf : codeF 0 (doE st 1 (4 * q.nu + 1) 0 []) = doE st 1 (4 * q.nu + 1) 0 [] := if_pos rfl
      rw [hcf] at hB ⊢
      refine ⟨rfl, O', Q, ⟨⟨_, lv, oldv, hW.calls hK (fun k hk => hk) (fun k hk => ?_) hB rfl rfl rfl⟩, hD', fun k hk => ?_, fun k hk => ?_, ?_⟩⟩
      · rcases hO' k hk with h1 | h1
        · exact .inl h1
        · exact .inr h1.1
      · rcases hO' k hk with h1 | h1
        · have := hO k h1; have := hK.size; omega
        · exact h1.2
      · rcases hk with hk | hk
        · rcases hO' k hk with h1 | h1
          · exact .inl (.inl h1)
          · exact .inr h1.1
        · exact .inl (.inr hk)
      · refine keeps_mono hK (fun k hk => ?_)
        rcases hk with hk | hk
        · exact .inl hk
        · exact .inr (hk ▸ hW.qg)
end Go.Proofs.Ytcpkpljeimbdiaa.W
