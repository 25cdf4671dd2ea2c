/-
  WalSgs + WalSgo + WalSgp + WalSgc + WalSgr + WalTrw + WalDo + WalWas + WalCla + WalCtm + WalCtw.
-/
import Derived.Test.YtcpkpljeimbdiaaGreatWalKpC
import Derived.Test.YtcpkpljeimbdiaaGreatWalKpB
namespace Go.Proofs.YtcpkpljeimbdiaaGreat.W
open Go.RowKit
open Aid K
set_option linter.unusedSimpArgs false
set_option linter.unusedVariables false
theorem segT_pos (ix : Nat) (bs : List (List Int)) : 0 < (segT ix bs).length := by
  rw [segT_len]
  have := List.length_pos_iff.2 (putU_ne ix)
  omega
theorem segT_push (ix : Nat) (bs : List (List Int)) (b : List Int) : segT ix (bs ++ [b]) = segT ix bs ++ putB b := by
  unfold segT; rw [recT_append, recT_one, List.append_assoc]
theorem sync_seg {st : DSt} {a : Int} (hP : Pln st) (m : Nat) : (syncF st a).F a m = (st.F a m).map lastS := by
  rw [sync_F]
  by_cases h : (Lit.int .i64 (m : Int)).wf = true
  · rw [if_pos ⟨rfl, h⟩]
  · rw [if_neg (fun hh => h hh.2)]
    cases hF : st.F a m with
    | none => rfl
    | some s =>
      have := hP.few a m (by rw [hF]; rfl)
      exact absurd (wf_i64 (by omega) (by omega)) h
theorem OnD.sync {st : DSt} {C : List Sg} {c : Sg} {k : Nat} (h : OnD st C (some (c, k))) (hP : Pln st) (hc : ∀ m : Nat, Cur (st.F (4 * c.nu + 1)) (segT c.ix c.bs) m) :
    OnD (syncF st (4 * c.nu + 1)) C (some (c, (segT c.ix c.bs).length)) ∧ (∀ m : Nat, Cur ((syncF st (4 * c.nu + 1)).F (4 * c.nu + 1)) (segT c.ix c.bs) m) ∧ ∀ m : Nat, (syncF st (4 * c.nu + 1)).F (4 * c.nu + 1) m = none ∨ ∃ V, (syncF st (4 * c.nu + 1)).F (4 * c.nu + 1) m = some ([V], true) := by
  obtain ⟨h1, h2⟩ := h.lst c k rfl
  obtain ⟨q1, q2, q3⟩ := h1.sync (F' := (syncF st (4 * c.nu + 1)).F (4 * c.nu + 1)) hc (sync_seg hP)
  refine ⟨⟨fun d hd => ?_, fun c' k' e => ?_, h.asc, h.ok, h.only, h.conn⟩, q2, q3⟩
  · have hne := h.apart hd
    exact (h.cls d hd).same (fun m => by rw [sync_F, if_neg (fun hh => by omega)]) rfl
  · cases e
    exact ⟨q1, h2⟩
theorem OnD.close {st : DSt} {C : List Sg} {c : Sg} {k : Nat} (h : OnD st C (some (c, k))) (hP : Pln st) (hc : ∀ m : Nat, Cur (st.F (4 * c.nu + 1)) (segT c.ix c.bs) m) (h1 : ∀ m : Nat, st.F (4 * c.nu + 1) m = none ∨ ∃ V, st.F (4 * c.nu + 1) m = some ([V], true)) : OnD st (C ++ [c]) none := by
  obtain ⟨k1, k2⟩ := h.lst c k rfl
  have hok := h.ok c mem_all_last
  refine ⟨fun d hd => ?_, (fun _ _ e => by cases e), h.asc, h.ok, h.only, h.conn⟩
  rcases List.mem_append.1 hd with hd | hd
  · exact h.cls d hd
  · rw [List.mem_singleton] at hd
    subst hd
    obtain ⟨t, t1, t2, t3⟩ := text_sees (Txt.live k1 hc) (Nat.le_refl _) (by omega)
    refine ⟨h1, ?_, ?_⟩
    · rw [t3, List.take_of_length_le t1]
      exact reads_seg (by have := hok.top; omega) hok.size
    · obtain ⟨L, s, hL⟩ := hc 1 0 (by decide) (segT_pos _ _)
      exact (hP.pres _).2 ⟨0, by rw [show (0 : Int) = ((0 : Nat) : Int) from rfl, hL]; rfl⟩
structure OpOf (st : DSt) (q : Opn) (c : Sg) : Prop where
  nu : q.nu = c.nu
  ix : q.ix = c.ix
  cur : ∀ m : Nat, Cur (st.F (4 * c.nu + 1)) (segT c.ix c.bs) m
  rest : (segT c.ix c.bs).drop (63 * q.fu) = q.rest
  fu : 63 * q.fu ≤ (segT c.ix c.bs).length
def OpR2 (st : DSt) : Option Opn → Option (Sg × Nat) → Prop
  | none, none => True
  | some q, some (c, _) => OpOf st q c
  | _, _ => False
structure LgD (d : Int) (s : LSt) (st : DSt) (C : List Sg) (l : Option (Sg × Nat)) : Prop where
  ond : OnD st C l
  pln : Pln st
  dead : st.dead = false
  code : s.code = 0
  opn : OpR2 st s.opn l
  old : s.old = (all C l).map fun c => (c.nu, (c.ix : Int))
  nxt : ∀ c ∈ all C l, c.nu < s.next
  nx : 0 ≤ s.next
  suf : Suf (s.first, s.L) (chD d (all C l))
def Out (C : List Sg) (l : Option (Sg × Nat)) (X : List Sg) : Prop := match l with
  | none => X = C
  | some (c, k) => ∃ t, k ≤ t ∧ t ≤ (segT c.ix c.bs).length ∧ X = if t < (putU c.ix).length then C else C ++ [{ c with bs := c.bs.take (fullR c.bs (t - (putU c.ix).length)) }]
def Cov (d : Int) (was : List Lg) (C : List Sg) (l : Option (Sg × Nat)) : Prop := ∀ X, Out C l X → ∃ r ∈ was, Suf r (chD d X)
theorem Cov.mono {d : Int} {was was' : List Lg} {C : List Sg} {l : Option (Sg × Nat)} (h : Cov d was C l) (hw : ∀ r ∈ was, r ∈ was') : Cov d was' C l := fun X hX => by
  obtain ⟨r, h1, h2⟩ := h X hX
  exact ⟨r, hw r h1, h2⟩
theorem take_self {c : Sg} {j : Nat} (h : c.bs.length ≤ j) : ({ c with bs := c.bs.take j } : Sg) = c := by
  obtain ⟨nu, ix, bs⟩ := c
  simp only at h ⊢
  rw [List.take_of_length_le h]
theorem Cov.full {d : Int} {r : Lg} {was : List Lg} {C : List Sg} {c : Sg} {k : Nat} (hk : (segT c.ix c.bs).length ≤ k) (h : Suf r (chD d (C ++ [c]))) (hr : r ∈ was) : Cov d was C (some (c, k)) := by
  rintro X ⟨t, t1, t2, rfl⟩
  have hl := segT_len c.ix c.bs
  rw [if_neg (by omega), take_self (by rw [fullR_end _ _ (by omega)]; exact Nat.le_refl _)]
  exact ⟨r, hr, h⟩
theorem Cov.fresh {d : Int} {s : Lg} {was : List Lg} {A : List Sg} {nu : Int} {ix : Nat} (h : Suf s (chD d A)) (h1 : s.1 ≤ ix) (h2 : (ix : Int) ≤ s.1 + s.2.length) (hd : A = [] → s.1 = d) (hr : s ∈ was) (hr2 : (s.1, s.2.take ((ix : Int) - s.1).toNat) ∈ was) (k : Nat) : Cov d was A (some (⟨nu, ix, []⟩, k)) := by
  rintro X ⟨t, t1, t2, rfl⟩
  split
  · exact ⟨s, hr, h⟩
  · simp only [List.take_nil]
    exact ⟨_, hr2, chD_void h h1 h2 hd⟩
theorem fullR_push : ∀ (bs : List (List Int)) (b : List Int) (m : Nat), m < (recT (bs ++ [b])).length → (bs ++ [b]).take (fullR (bs ++ [b]) m) = bs.take (fullR bs (min m (recT bs).length))
  | [], b, m, h => by
    rw [List.nil_append, recT_one] at h
    have e : fullR [b] m = 0 := by rw [fullR, if_pos h]
    rw [List.nil_append, e]
    simp
  | x :: bs, b, m, h => by
    rw [List.cons_append, recT, List.length_append] at h
    rw [List.cons_append, fullR, fullR, recT, List.length_append]
    by_cases hm : m < (putB x).length
    · rw [if_pos hm, if_pos (by omega)]
      simp
    · rw [if_neg hm, if_neg (by omega), List.take_succ_cons, List.take_succ_cons, fullR_push bs b (m - (putB x).length) (by omega)]
      congr 3
      omega
theorem Cov.push {d : Int} {was : List Lg} {C : List Sg} {c : Sg} {k : Nat} {b : List Int} {r : Lg} (h : Cov d was C (some (c, k))) (hk : k ≤ (segT c.ix c.bs).length) (hr : Suf r (chD d (C ++ [c]))) : Cov d (was ++ [(r.1, r.2 ++ [b])]) C (some ({ c with bs := c.bs ++ [b] }, k)) := by
  rintro X ⟨t, t1, t2, rfl⟩
  simp only at t2 ⊢
  have hl := segT_len c.ix c.bs
  have hl2 := segT_len c.ix (c.bs ++ [b])
  have hl3 : (recT (c.bs ++ [b])).length = (recT c.bs).length + (putB b).length := by rw [recT_append, recT_one, List.length_append]
  by_cases ht : t < (segT c.ix (c.bs ++ [b])).length
  · obtain ⟨r', h1, h2⟩ := h _ ⟨min t (segT c.ix c.bs).length, by omega, by omega, rfl⟩
    refine ⟨r', by simp [h1], ?_⟩
    by_cases hp : t < (putU c.ix).length
    · rw [if_pos (by omega)] at h2
      rw [if_pos hp]
      exact h2
    · rw [if_neg (by omega)] at h2
      rw [if_neg hp, fullR_push _ _ _ (by omega)]
      rw [show min (t - (putU c.ix).length) (recT c.bs).length = min t (segT c.ix c.bs).length - (putU c.ix).length by omega]
      exact h2
  · have hp := putB_pos b
    rw [if_neg (by omega), fullR_end _ _ (by omega), List.take_length]
    refine ⟨(r.1, r.2 ++ [b]), by simp, ?_⟩
    rw [chD_push]
    exact hr.push [b]
theorem LgD.room_sync {s : LSt} {st : DSt} : (syS s st).2.room = st.room := by
  unfold syS
  split
  · rfl
  split
  · rfl
  rename_i q hq
  simp only
  unfold doS
  rw [if_neg (by decide), if_pos rfl]
  split
  · unfold tickF; split <;> rfl
  · rfl
theorem LgD.sync {d : Int} {s : LSt} {st : DSt} {C : List Sg} {l : Option (Sg × Nat)} (h : LgD d s st C l) :
    ((syS s st).2.dead = true ∧ OnD (syS s st).2 C l ∧ Pln (syS s st).2) ∨
    ((syS s st).1 = s ∧ ∃ l', l' = l.map (fun x => (x.1, (segT x.1.ix x.1.bs).length)) ∧ LgD d s (syS s st).2 C l' ∧ ∀ c k, l' = some (c, k) → ∀ m : Nat, (syS s st).2.F (4 * c.nu + 1) m = none ∨ ∃ V, (syS s st).2.F (4 * c.nu + 1) m = some ([V], true)) := by
  have ho := h.opn
  unfold syS
  rw [if_neg (by rw [h.code]; decide)]
  cases hq : s.opn with
  | none =>
    rw [hq] at ho
    cases l with
    | some x => exact ho.elim
    | none => exact .inr ⟨rfl, none, rfl, h, fun c k e => by cases e⟩
  | some q =>
    rw [hq] at ho
    cases l with
    | none => exact ho.elim
    | some x =>
      obtain ⟨c, k⟩ := x
      have ho : OpOf st q c := ho
      simp only
      rw [ho.nu]
      by_cases ht : (tickF st).dead = true
      · left
        have hS : doS st 1 (4 * c.nu + 1) 0 [] = tickF st := by unfold doS; rw [if_neg (by decide), if_pos rfl, if_pos ht]
        rw [hS]
        exact ⟨ht, h.ond.same (tick_same st).1 (tick_same st).2.1, h.pln.same (tick_same st).1 (tick_same st).2.1⟩
      · right
        have hS : doS st 1 (4 * c.nu + 1) 0 [] = syncF st (4 * c.nu + 1) := by unfold doS; rw [if_neg (by decide), if_pos rfl, if_neg ht]
        have hE : doE st 1 (4 * c.nu + 1) 0 [] = 0 := by unfold doE; rw [if_neg (by decide), if_pos (.inl rfl), if_neg ht]
        rw [hS, hE]
        obtain ⟨q1, q2, q3⟩ := h.ond.sync h.pln ho.cur
        refine ⟨?_, _, rfl, ⟨q1, h.pln.sync, (tick_false (by simpa using ht)).2, h.code, ?_, h.old, h.nxt, h.nx, h.suf⟩, fun c' k' e => ?_⟩
        · have hc := h.code
          obtain ⟨o, f, L, od, nx, cd⟩ := s
          simp only at hc hq
          subst hc
          subst hq
          rfl
        · rw [hq]
          exact (⟨ho.nu, ho.ix, q2, ho.rest, ho.fu⟩ : OpOf _ q c)
        · cases e
          exact q3
end Go.Proofs.YtcpkpljeimbdiaaGreat.W
namespace Go.Proofs.YtcpkpljeimbdiaaGreat.W
open Go.RowKit
open Aid K
set_option linter.unusedSimpArgs false
set_option linter.unusedVariables false
theorem wrS_seg {s : LSt} {st : DSt} {C : List Sg} {c : Sg} {k : Nat} {q : Opn} {b : List Int} (hq : s.opn = some q) (hnu : q.nu = c.nu) (hO : OnD st C (some (c, k))) (hP : Pln st) (hd : st.dead = false) (hr : ((q.rest.length + b.length : Nat) : Int) ≤ st.room) (hb : 1 ≤ b.length)
    (hfu : 63 * q.fu ≤ (segT c.ix c.bs).length) (hrest : (segT c.ix c.bs).drop (63 * q.fu) = q.rest ++ b) (hcur : Cur (st.F (4 * c.nu + 1)) (segT c.ix c.bs) q.fu) (hix : q.ix = c.ix) :
    OnD (wrS s st b).2 C (some (c, k)) ∧ Pln (wrS s st b).2 ∧ st.room - ((q.rest.length + b.length : Nat) : Int) ≤ (wrS s st b).2.room ∧ ((wrS s st b).2.dead = false → (wrS s st b).1.code = 0) ∧
    ((wrS s st b).1.code = 0 → ∃ q', (wrS s st b).1.opn = some q' ∧ OpOf (wrS s st b).2 q' c) := by
  unfold wrS
  rw [hq]
  simp only
  rw [hnu]
  obtain ⟨h1, h2, h3, h4, h5⟩ := wrF_ond (T := segT c.ix c.bs) rfl (q.rest.length + b.length) (st := st) (full := q.fu) (rest := q.rest ++ b) hO hP hd hr (by rw [List.length_append]; omega) (by rw [List.length_append]; exact Nat.le_refl _) hfu hrest hcur
  refine ⟨h1, h2, h3, h4, fun hc => ⟨_, rfl, ?_⟩⟩
  obtain ⟨k1, k2, k3⟩ := h5 hc
  exact ⟨rfl, hix, k1, k2, k3⟩
theorem Suf.void {a : Lg} {d : Int} (h : Suf a (d, [])) : a.1 = d ∧ a.2 = [] := by
  obtain ⟨h1, h2, h3⟩ := h
  simp only [List.drop_nil] at h3
  rw [← h3] at h2
  have h2' : a.1 + (([] : List (List Int)).length : Int) = d + (([] : List (List Int)).length : Int) := h2
  simp only [List.length_nil] at h2'
  exact ⟨by omega, h3.symm⟩
theorem LgD.endd {d : Int} {s : LSt} {st : DSt} {C : List Sg} {l : Option (Sg × Nat)} (h : LgD d s st C l) (hn : all C l ≠ []) : s.first + s.L.length = endS (all C l) := by
  rw [← chD_end (d := d) h.ond.conn hn]
  exact h.suf.2.1
theorem LgD.begin {d : Int} {s : LSt} {st : DSt} {C : List Sg} {l : Option (Sg × Nat)} {ix : Nat} (h : LgD d s st C l) (h1 : s.first ≤ ix) (h2 : (ix : Int) ≤ s.first + s.L.length) (hr : 10 ≤ st.room) (hn : s.next < 2305843009213693952) (ht : ix ≤ 4611686018427387904) :
    st.room - 10 ≤ (beS s st ix).2.room ∧ Pln (beS s st ix).2 ∧
    (((beS s st ix).2.dead = true ∧ (OnD (beS s st ix).2 C l ∨ OnD (beS s st ix).2 (all C l) (some (⟨s.next, ix, []⟩, 0)))) ∨
     ((beS s st ix).1.code = 0 ∧ LgD d { (beS s st ix).1 with L := s.L.take ((ix : Int) - s.first).toNat } (beS s st ix).2 (all C l) (some (⟨s.next, ix, []⟩, 0)))) := by
  have hpd : Pd (s, st) := fun hh => by have := h.dead; simp only at hh; rw [this] at hh; cases hh
  have hroom := LgD.room_sync (s := s) (st := st)
  rcases h.sync with ⟨k1, k2, k3⟩ | ⟨k1, l', k2, k3, k4⟩
  · have hc : (syS s st).1.code = 30 := syS_pd hpd k1
    have e : beS s st ix = syS s st := by unfold beS; simp only; rw [if_pos (by rw [hc]; decide)]
    rw [e, hroom]
    exact ⟨by omega, k3, .inl ⟨k1, .inl k2⟩⟩
  · obtain ⟨st1, hst1⟩ : ∃ st1, (syS s st).2 = st1 := ⟨_, rfl⟩
    rw [hst1] at k3 k4 hroom
    have hsy : syS s st = (s, st1) := Prod.ext k1 hst1
    have hA : OnD st1 (all C l) none := by
      cases l with
      | none => rw [k2] at k3; exact k3.ond
      | some x =>
        obtain ⟨c, k⟩ := x
        rw [k2] at k3 k4
        have ho := k3.opn
        cases hq : s.opn with
        | none => rw [hq] at ho; exact ho.elim
        | some q =>
          rw [hq] at ho
          have ho : OpOf st1 q c := ho
          exact k3.ond.close k3.pln ho.cur (k4 c _ rfl)
    have hall : all C l' = all C l := by
      rw [k2]
      cases l with
      | none => rfl
      | some x => rfl
    have hnx := k3.nxt
    rw [hall] at hnx
    obtain ⟨c', hc'⟩ : ∃ c' : Sg, c' = ⟨s.next, ix, []⟩ := ⟨_, rfl⟩
    have hten := putU_ten (n := ix) (by omega)
    have hT : segT ix [] = putU ix := by unfold segT; simp [recT]
    have hO1 : OnD st1 (all C l) (some (c', 0)) := by
      subst hc'
      refine ⟨hA.cls, fun c k e => ?_, ?_, fun c hc => ?_, fun n hn0 ha => ?_, ?_⟩
      · cases e
        refine ⟨Txt.void (fun m => ?_) _ (by rw [hT]; exact putU_by8 (by omega)), by rw [hT]; omega⟩
        cases hF : st1.F (4 * s.next + 1) m with
        | none => rfl
        | some sc =>
          obtain ⟨c, hc, hcn⟩ := hA.only s.next k3.nx ((k3.pln.pres _).2 ⟨m, by rw [hF]; rfl⟩)
          have := hnx c hc
          omega
      · exact List.pairwise_append.2 ⟨hA.asc, by simp, fun a ha b hb => by rw [List.mem_singleton] at hb; subst hb; exact hnx a ha⟩
      · rcases List.mem_append.1 hc with hc | hc
        · exact hA.ok c hc
        · rw [List.mem_singleton] at hc
          subst hc
          exact ⟨k3.nx, hn, (fun b hb => by cases hb), (fun b hb => by cases hb), by simpa using ht⟩
      · obtain ⟨c, hc, hcn⟩ := hA.only n hn0 ha
        exact ⟨c, List.mem_append_left _ hc, hcn⟩
      · refine hA.conn.snoc (fun hne => ?_)
        have := k3.endd (by rw [hall]; exact hne)
        rw [hall] at this
        show (ix : Int) ≤ endS (all C l)
        omega
    have hw := wrS_seg (s := { s with opn := some ⟨s.next, ix, 0, []⟩, next := s.next + 1, old := s.old ++ [(s.next, (ix : Int))] }) (st := st1) (b := putU ix) (q := ⟨s.next, ix, 0, []⟩) rfl (by rw [hc']) hO1 k3.pln k3.dead (by simp only [List.length_nil]; omega) (List.length_pos_iff.2 (putU_ne ix)) (Nat.zero_le _) (by rw [hc']; simp [hT]) (fun m hm => absurd hm (Nat.not_lt_zero m)) (by rw [hc'])
    have hbe : beS s st ix = wrS { s with opn := some ⟨s.next, ix, 0, []⟩, next := s.next + 1, old := s.old ++ [(s.next, (ix : Int))] } st1 (putU ix) := by
      unfold beS
      simp only [hsy]
      rw [if_neg (by rw [h.code]; decide)]
      rw [show ((ix : Int)).toNat = ix by omega]
    obtain ⟨w1, w2, w3, w4, w5⟩ := hw
    obtain ⟨z1, z2, z3, z4⟩ := wrS_same { s with opn := some ⟨s.next, ix, 0, []⟩, next := s.next + 1, old := s.old ++ [(s.next, (ix : Int))] } st1 (putU ix)
    rw [← hbe] at w1 w2 w3 w4 w5 z1 z2 z3 z4
    simp only [List.length_nil] at w3
    refine ⟨by omega, w2, ?_⟩
    cases hdd : (beS s st ix).2.dead with
    | true => exact .inl ⟨rfl, .inr (hc' ▸ w1)⟩
    | false =>
      right
      have hcode := w4 hdd
      obtain ⟨q', hq', ho'⟩ := w5 hcode
      refine ⟨hcode, hc' ▸ ⟨w1, w2, hdd, hcode, ?_, ?_, ?_, ?_, ?_⟩⟩
      · simp only
        rw [hq']
        exact ho'
      · simp only
        rw [z2, k3.old, hall, hc']
        simp [all]
      · intro c hc
        simp only
        rw [z1]
        rcases List.mem_append.1 hc with hc | hc
        · have := hnx c hc; simp only; omega
        · rw [List.mem_singleton] at hc
          subst hc
          rw [hc']
          simp only
          omega
      · simp only
        rw [z1]
        have := k3.nx
        simp only
        omega
      · simp only
        rw [z3, hc']
        have hs := k3.suf
        rw [hall] at hs
        refine chD_void hs h1 h2 (fun hnil => ?_)
        rw [hnil] at hs
        exact (Suf.void hs).1
theorem LgD.put {d : Int} {s : LSt} {st : DSt} {C : List Sg} {c : Sg} {k : Nat} {q : Opn} {b : List Int} (h : LgD d s st C (some (c, k))) (hq : s.opn = some q) (hfu : q.fu ≤ 100) (hre : q.rest.length ≤ 62) (hb : b.length ≤ 512) (hb8 : By8 b) (hr : 600 ≤ st.room) (ht : s.first + s.L.length < 4611686018427387904) :
    st.room - 600 ≤ (wrS s st (putB b)).2.room ∧ Pln (wrS s st (putB b)).2 ∧ OnD (wrS s st (putB b)).2 C (some ({ c with bs := c.bs ++ [b] }, k)) ∧
    ((wrS s st (putB b)).2.dead = true ∨ ((wrS s st (putB b)).1.code = 0 ∧ LgD d { (wrS s st (putB b)).1 with L := s.L ++ [b] } (wrS s st (putB b)).2 C (some ({ c with bs := c.bs ++ [b] }, k)))) := by
  obtain ⟨c2, hc2⟩ : ∃ c2 : Sg, c2 = { c with bs := c.bs ++ [b] } := ⟨_, rfl⟩
  have ho := h.opn
  rw [hq] at ho
  have ho : OpOf st q c := ho
  obtain ⟨hl1, hl2⟩ := h.ond.lst c k rfl
  have hokc := h.ond.ok c mem_all_last
  have hten := putU_ten (n := b.length) (by omega)
  have hpl : (putB b).length = (putU b.length).length + b.length := by unfold putB; rw [List.length_append]
  have hpp := putB_pos b
  have hT2 : segT c2.ix c2.bs = segT c.ix c.bs ++ putB b := by rw [hc2]; exact segT_push _ _ _
  have hpb8 : By8 (putB b) := fun x hx => by
    unfold putB at hx
    exact (List.mem_append.1 hx).elim (putU_by8 (by omega) x) (hb8 x)
  have hTl : (segT c.ix c.bs).length = 63 * q.fu + q.rest.length := by
    have h5 := congrArg List.length ho.rest
    rw [List.length_drop] at h5
    have := ho.fu
    omega
  have hend := h.endd (by simp [all])
  have hendc : endS (all C (some (c, k))) = c.ix + c.bs.length := endS_snoc C c
  have hO2 : OnD st C (some (c2, k)) := by
    refine ⟨h.ond.cls, fun c' k' e => ?_, ?_, fun x hx => ?_, fun n hn ha => ?_, ?_⟩
    · cases e
      rw [hT2]
      refine ⟨?_, by rw [List.length_append]; omega⟩
      have := hl1.grow hpb8
      rw [hc2]
      exact this
    · have h5 := h.ond.asc
      unfold all at h5 ⊢
      obtain ⟨p1, p2, p3⟩ := List.pairwise_append.1 h5
      exact List.pairwise_append.2 ⟨p1, by simp, fun a ha x hx => by
        rw [List.mem_singleton] at hx
        rw [hx, hc2]
        exact p3 a ha c (by simp)⟩
    · rcases List.mem_append.1 hx with hx | hx
      · exact h.ond.ok x (List.mem_append_left _ hx)
      · rw [List.mem_singleton] at hx
        rw [hx, hc2]
        refine ⟨hokc.n0, hokc.n1, fun y hy => ?_, fun y hy => ?_, ?_⟩
        · rcases List.mem_append.1 hy with hy | hy
          · exact hokc.size y hy
          · rw [List.mem_singleton] at hy; rw [hy]; exact hb
        · rcases List.mem_append.1 hy with hy | hy
          · exact hokc.by8 y hy
          · rw [List.mem_singleton] at hy; rw [hy]; exact hb8
        · simp only [List.length_append, List.length_cons, List.length_nil]
          omega
    · obtain ⟨x, hx, hxn⟩ := h.ond.only n hn ha
      rcases List.mem_append.1 hx with hx | hx
      · exact ⟨x, List.mem_append_left _ hx, hxn⟩
      · rw [List.mem_singleton] at hx
        exact ⟨c2, by simp [all], by rw [hc2, ← hxn, hx]⟩
    · obtain ⟨p1, p2⟩ := Conn.front (C := C) (c := c) h.ond.conn
      exact p1.snoc (by rw [hc2]; exact p2)
  have hcur2 : Cur (st.F (4 * c2.nu + 1)) (segT c2.ix c2.bs) q.fu := by
    intro m hm hmT
    have hmT' : 63 * m < (segT c.ix c.bs).length := by omega
    obtain ⟨L, sb, hL⟩ := ho.cur (m + 1) m (Nat.lt_succ_self _) hmT'
    refine ⟨L, sb, ?_⟩
    have e1 : min 63 ((segT c.ix c.bs).length - 63 * m) = 63 := by omega
    have e2 : min 63 ((segT c2.ix c2.bs).length - 63 * m) = 63 := by rw [hT2, List.length_append]; omega
    rw [e2, hT2, secP_pre (by omega), ← e1]
    rw [hc2]
    exact hL
  have hw := wrS_seg (s := s) (st := st) (c := c2) (b := putB b) hq (by rw [hc2]; exact ho.nu) hO2 h.pln h.dead (by omega) hpp (by rw [hT2, List.length_append]; have := ho.fu; omega) (by rw [hT2, List.drop_append_of_le_length ho.fu, ho.rest]) hcur2 (by rw [hc2]; exact ho.ix)
  obtain ⟨w1, w2, w3, w4, w5⟩ := hw
  obtain ⟨z1, z2, z3, z4⟩ := wrS_same s st (putB b)
  refine ⟨by omega, w2, hc2 ▸ w1, ?_⟩
  cases hdd : (wrS s st (putB b)).2.dead with
  | true => exact .inl rfl
  | false =>
    right
    have hcode := w4 hdd
    obtain ⟨q', hq', ho'⟩ := w5 hcode
    refine ⟨hcode, hc2 ▸ ⟨w1, w2, hdd, hcode, ?_, ?_, ?_, ?_, ?_⟩⟩
    · simp only
      rw [hq']
      exact ho'
    · simp only
      rw [z2, h.old, hc2]
      simp [all]
    · intro x hx
      simp only
      rw [z1]
      rcases List.mem_append.1 hx with hx | hx
      · exact h.nxt x (List.mem_append_left _ hx)
      · rw [List.mem_singleton] at hx
        rw [hx, hc2]
        exact h.nxt c mem_all_last
    · simp only
      rw [z1]
      exact h.nx
    · simp only
      rw [z3, hc2]
      show Suf _ (chD d (C ++ [{ c with bs := c.bs ++ [b] }]))
      rw [chD_push]
      exact h.suf.push [b]
end Go.Proofs.YtcpkpljeimbdiaaGreat.W
namespace Go.Proofs.YtcpkpljeimbdiaaGreat.W
open Go.RowKit
open Aid K
set_option linter.unusedSimpArgs false
set_option linter.unusedVariables false
def doF (r : Lg) (k n : Int) (b : List Int) : Lg × Int :=
  let i := IntKind.u64.wrap (r.1 + IntKind.u64.wrap n)
  if k = 0 then (if 512 < b.length then (r, 50) else ((r.1, r.2 ++ [b]), 0))
  else if k = 2 then (if n < 0 ∨ (r.2.length : Int) < n then (r, 51) else ((r.1, r.2.take n.toNat), 0))
  else if k = 3 then (if i ≤ r.1 then (r, 0) else if IntKind.u64.wrap (r.1 + r.2.length) < i then (r, 51) else ((i, r.2.drop n.toNat), 0))
  else (r, 0)
def Bd (A : List Sg) (E K : Int) : Prop := ∀ c ∈ A, (c.ix : Int) + c.bs.length ≤ E ∧ c.nu < K
theorem Bd.next {A : List Sg} {E K : Int} (h : Bd A E K) : Bd A (E + 1) (K + 1) := fun c hc => by have := h c hc; omega
theorem Bd.snoc {A : List Sg} {c : Sg} {E K : Int} (h : Bd A E K) (h1 : (c.ix : Int) + c.bs.length ≤ E) (h2 : c.nu < K) : Bd (A ++ [c]) E K := fun x hx => by
  rcases List.mem_append.1 hx with hx | hx
  · exact h x hx
  · rw [List.mem_singleton] at hx
    rw [hx]; exact ⟨h1, h2⟩
theorem Bd.push {C : List Sg} {c : Sg} {k : Nat} {b : List Int} {E K : Int} (h : Bd (all C (some (c, k))) E K) : Bd (all C (some ({ c with bs := c.bs ++ [b] }, k))) (E + 1) K := by
  have hc := h c mem_all_last
  refine Bd.snoc (fun x hx => ?_) ?_ hc.2
  · have := h x (mem_all_left hx); omega
  · simp only [List.length_append, List.length_cons, List.length_nil]; omega
def After (d : Int) (was : List Lg) (room E K : Int) (x : LSt × DSt × Int) (r2 : Lg) (f : Int) (sy : Bool) : Prop :=
  Pln x.2.1 ∧ room ≤ x.2.1.room ∧
  ((x.2.1.dead = true ∧ ∃ C l, OnD x.2.1 C l ∧ Cov d (was ++ [r2]) C l ∧ Bd (all C l) (E + 1) (K + 1)) ∨
   (x.2.1.dead = false ∧ x.2.2 = f ∧ (x.1.first, x.1.L) = r2 ∧ ∃ C l, LgD d x.1 x.2.1 C l ∧ Cov d (if sy = true then [r2] else was ++ [r2]) C l ∧ Bd (all C l) (E + 1) (K + 1)))
theorem After.still {d : Int} {was : List Lg} {s : LSt} {st : DSt} {C : List Sg} {l : Option (Sg × Nat)} {f E K : Int} (h : LgD d s st C l) (hc : Cov d was C l) (hB : Bd (all C l) E K) {room : Int} (hr : room ≤ st.room) : After d was room E K (s, st, f) (s.first, s.L) f false :=
  ⟨h.pln, hr, .inr ⟨h.dead, rfl, rfl, C, l, h, hc.mono (fun r hr => by simp [hr]), hB.next⟩⟩
theorem ap_put {d : Int} {was : List Lg} {s : LSt} {st : DSt} {C : List Sg} {c : Sg} {k : Nat} {q : Opn} {b : List Int} (h : LgD d s st C (some (c, k))) (hc : Cov d was C (some (c, k))) (hq : s.opn = some q) (hfu : q.fu ≤ 100) (hre : q.rest.length ≤ 62) (hb : b.length ≤ 512) (hb8 : By8 b) (hr : 600 ≤ st.room) (ht : s.first + s.L.length < 4611686018427387904) {E K : Int} (hB : Bd (all C (some (c, k))) E (K + 1)) :
    After d was (st.room - 600) E K ((if (wrS s st (putB b)).1.code = 0 then { (wrS s st (putB b)).1 with L := (wrS s st (putB b)).1.L ++ [b] } else (wrS s st (putB b)).1), (wrS s st (putB b)).2, (wrS s st (putB b)).1.code) (s.first, s.L ++ [b]) 0 false := by
  obtain ⟨z1, z2, z3, z4⟩ := wrS_same s st (putB b)
  obtain ⟨p1, p2, p3, p4⟩ := h.put hq hfu hre hb hb8 hr ht
  have hk := (h.ond.lst c k rfl).1.le
  have hcov := hc.push (b := b) (r := (s.first, s.L)) hk h.suf
  refine ⟨p2, p1, ?_⟩
  rcases p4 with p4 | ⟨p4, p5⟩
  · exact .inl ⟨p4, C, _, p3, hcov, hB.push⟩
  · right
    simp only
    rw [if_pos p4]
    have e : ({ (wrS s st (putB b)).1 with L := s.L ++ [b] } : LSt) = { (wrS s st (putB b)).1 with L := (wrS s st (putB b)).1.L ++ [b] } := by rw [z4]
    refine ⟨p5.dead, p4, ?_, C, _, e ▸ p5, hcov, hB.push⟩
    simp only
    rw [z3, z4]
theorem room_dead {d : Int} {was : List Lg} {x : LSt × DSt × Int} {r2 : Lg} {f room E K : Int} {sy : Bool} (hP : Pln x.2.1) (hr : room ≤ x.2.1.room) (hd : x.2.1.dead = true) {C : List Sg} {l : Option (Sg × Nat)} (hO : OnD x.2.1 C l) (hc : Cov d (was ++ [r2]) C l) (hB : Bd (all C l) (E + 1) (K + 1)) : After d was room E K x r2 f sy := ⟨hP, hr, .inl ⟨hd, C, l, hO, hc, hB⟩⟩
theorem apS_after {d : Int} {was : List Lg} {s : LSt} {st : DSt} {C : List Sg} {l : Option (Sg × Nat)} {b : List Int} {R : Int} {k i : Nat} (h : LgD d s st C l) (hc : Cov d was C l) (hv : Inv s st R k i) (hk : k ≤ 1999990) (hb8 : By8 b) (hr : 610 ≤ st.room) (ht : s.first + s.L.length < 4611686018427387904) (hw : (s.first, s.L) ∈ was) {E K : Int} (hB : Bd (all C l) E K) (hE : s.first + s.L.length ≤ E) (hK : s.next ≤ K) :
    After d was (st.room - 610) E K (apS s st b) (if 512 < b.length then (s.first, s.L) else (s.first, s.L ++ [b])) (if 512 < b.length then 50 else 0) false := by
  unfold apS
  rw [if_neg (by rw [h.code]; decide)]
  by_cases hb : 512 < b.length
  · rw [if_pos hb, if_pos hb, if_pos hb]
    exact After.still h hc hB (by omega)
  rw [if_neg hb, if_neg hb, if_neg hb, if_neg (by omega)]
  simp only
  have hf := hv.first
  obtain ⟨ix, hix⟩ : ∃ ix : Nat, s.first + s.L.length = ix := ⟨(s.first + s.L.length).toNat, by omega⟩
  by_cases hwant : wantS s = true
  · rw [if_pos hwant, hix]
    have hbI := hv.begin (ix := (ix : Int)) (by omega) h.code (by omega) (by omega)
    have hbg := h.begin (ix := ix) (by omega) (by omega) (by omega) (by have := hv.next; omega) (by omega)
    obtain ⟨z1, z2⟩ := beS_same s st (ix : Int)
    have htk : s.L.take ((ix : Int) - s.first).toNat = s.L := List.take_of_length_le (by omega)
    rw [htk] at hbg
    obtain ⟨g1, g2, g3⟩ := hbg
    have hnil : all C l = [] → s.first = d := fun hnil => by have := h.suf; rw [hnil] at this; exact (Suf.void this).1
    have hfr : ∀ k, Cov d was (all C l) (some (⟨s.next, ix, []⟩, k)) := fun k => Cov.fresh (s := (s.first, s.L)) h.suf (by simp only; omega) (by simp only; omega) hnil hw (by simp only; rw [htk]; exact hw) k
    have hB2 : Bd (all (all C l) (some (⟨s.next, ix, []⟩, 0))) E (K + 1) := Bd.snoc (fun c hc => by have := hB c hc; omega) (by simp only [List.length_nil]; omega) (by simp only; omega)
    have hB1 : Bd (all (all C l) (some (⟨s.next, ix, []⟩, 0))) (E + 1) (K + 1) := fun c hc => by have := hB2 c hc; omega
    rcases g3 with ⟨g3, g4⟩ | ⟨g3, g4⟩
    · have hcode : (beS s st (ix : Int)).1.code = 30 := hbI.pd g3
      rw [if_pos (by rw [hcode]; decide)]
      rcases g4 with g4 | g4
      · exact room_dead g2 (by simp only; omega) g3 g4 (hc.mono (fun r hr => by simp [hr])) hB.next
      · exact room_dead g2 (by simp only; omega) g3 g4 ((hfr 0).mono (fun r hr => by simp [hr])) hB1
    · rw [if_neg (by rw [g3]; decide)]
      have e : ({ (beS s st (ix : Int)).1 with L := s.L } : LSt) = (beS s st (ix : Int)).1 := by rw [← z2]
      rw [e] at g4
      cases hq : (beS s st (ix : Int)).1.opn with
      | none => have := g4.opn; rw [hq] at this; exact this.elim
      | some q =>
        have hqo := hbI.opn g3 q hq
        have hp := ap_put g4 (hfr 0) hq (by have := hqo.fu; omega) hqo.rest (by omega) hb8 (by omega) (by rw [z1, z2]; omega) hB2
        rw [z1, z2] at hp
        obtain ⟨p1, p2, p3⟩ := hp
        exact ⟨p1, by simp only at p2 ⊢; show _ ≤ (wrS _ _ (putB b)).2.room; omega, p3⟩
  · rw [if_neg hwant, if_neg (by simp only; rw [h.code]; decide)]
    unfold wantS at hwant
    cases hq : s.opn with
    | none => rw [hq] at hwant; exact absurd rfl hwant
    | some q =>
      have hqo := hv.opn h.code q hq
      have ho := h.opn
      rw [hq] at ho
      cases l with
      | none => exact ho.elim
      | some x =>
        obtain ⟨c, k'⟩ := x
        have hp := ap_put h hc hq (by have := hqo.fu; omega) hqo.rest (by omega) hb8 (by omega) ht (E := E) (K := K) (fun c hc => by have := hB c hc; omega)
        obtain ⟨p1, p2, p3⟩ := hp
        exact ⟨p1, by simp only at p2 ⊢; show _ ≤ (wrS _ _ (putB b)).2.room; omega, p3⟩
theorem trS_after {d : Int} {was : List Lg} {s : LSt} {st : DSt} {C : List Sg} {l : Option (Sg × Nat)} {n x R : Int} {k i : Nat} (h : LgD d s st C l) (hc : Cov d was C l) (hv : Inv s st R k i) (hk : k ≤ 1999990) (hr : 610 ≤ st.room) (ht : s.first + s.L.length < 4611686018427387904) (hw : (s.first, s.L) ∈ was)
    (hx : x = IntKind.u64.wrap (s.first + IntKind.u64.wrap n)) (hn : -1000000 < n ∧ n < 1000000) {E K : Int} (hB : Bd (all C l) E K) (hE : s.first + s.L.length ≤ E) (hK : s.next ≤ K) :
    After d was (st.room - 610) E K (trS s st x) (if n < 0 ∨ (s.L.length : Int) < n then (s.first, s.L) else (s.first, s.L.take n.toNat)) (if n < 0 ∨ (s.L.length : Int) < n then 51 else 0) false := by
  have hf := hv.first
  rw [IntKind.wrap_u64, IntKind.wrap_u64] at hx
  unfold trS
  rw [if_neg (by rw [h.code]; decide)]
  by_cases hbad : n < 0 ∨ (s.L.length : Int) < n
  · rw [if_pos hbad, if_pos hbad, if_pos (by omega)]
    exact After.still h hc hB (by omega)
  · rw [if_neg hbad, if_neg hbad, if_neg (by omega)]
    have hxn : x = s.first + n := by omega
    by_cases hend : x - s.first = s.L.length
    · rw [if_pos hend, List.take_of_length_le (by omega)]
      exact After.still h hc hB (by omega)
    · rw [if_neg hend]
      simp only
      obtain ⟨ix, hix⟩ : ∃ ix : Nat, x = ix := ⟨x.toNat, by omega⟩
      have hbI := hv.begin (ix := x) (by omega) h.code (by omega) (by omega)
      have hbg := h.begin (ix := ix) (by omega) (by omega) (by omega) (by have := hv.next; omega) (by omega)
      rw [← hix] at hbg
      obtain ⟨z1, z2⟩ := beS_same s st x
      have htk : (x - s.first).toNat = n.toNat := by omega
      rw [htk] at hbg ⊢
      obtain ⟨g1, g2, g3⟩ := hbg
      have hnil : all C l = [] → s.first = d := fun hnil => by have := h.suf; rw [hnil] at this; exact (Suf.void this).1
      have hfr : ∀ k, Cov d (was ++ [(s.first, s.L.take n.toNat)]) (all C l) (some (⟨s.next, ix, []⟩, k)) := fun k => Cov.fresh (s := (s.first, s.L)) h.suf (by simp only; omega) (by simp only; omega) hnil (by simp [hw]) (by simp only; rw [← hix, htk]; simp) k
      have hB1 : Bd (all (all C l) (some (⟨s.next, ix, []⟩, 0))) (E + 1) (K + 1) := Bd.snoc (fun c hc => by have := hB c hc; omega) (by simp only [List.length_nil]; omega) (by simp only; omega)
      rcases g3 with ⟨g3, g4⟩ | ⟨g3, g4⟩
      · rcases g4 with g4 | g4
        · exact room_dead g2 (by simp only; omega) g3 g4 (hc.mono (fun r hr => by simp [hr])) hB.next
        · exact room_dead g2 (by simp only; omega) g3 g4 (hfr 0) hB1
      · rw [if_pos g3]
        have e : ({ (beS s st x).1 with L := s.L.take n.toNat } : LSt) = { (beS s st x).1 with L := (beS s st x).1.L.take n.toNat } := by rw [z2]
        refine ⟨g2, by simp only; omega, .inr ⟨g4.dead, g3, ?_, _, _, e ▸ g4, hfr 0, hB1⟩⟩
        simp only
        rw [z1, z2]
theorem syS_after {d : Int} {was : List Lg} {s : LSt} {st : DSt} {C : List Sg} {l : Option (Sg × Nat)} (h : LgD d s st C l) (hc : Cov d was C l) {E K : Int} (hB : Bd (all C l) E K) :
    After d was st.room E K ((syS s st).1, (syS s st).2, (syS s st).1.code) (s.first, s.L) 0 true := by
  have hroom := LgD.room_sync (s := s) (st := st)
  rcases h.sync with ⟨k1, k2, k3⟩ | ⟨k1, l', k2, k3, k4⟩
  · exact room_dead k3 (by simp only; omega) k1 k2 (hc.mono (fun r hr => by simp [hr])) hB.next
  · rw [k1]
    have hall : all C l' = all C l := by
      rw [k2]
      cases l <;> rfl
    refine ⟨k3.pln, by simp only; omega, .inr ⟨k3.dead, h.code, rfl, C, l', k3, ?_, by rw [hall]; exact hB.next⟩⟩
    rw [if_pos rfl]
    have hs := k3.suf
    cases l with
    | none =>
      rw [k2] at hs ⊢
      rintro X rfl
      exact ⟨_, by simp, hs⟩
    | some x =>
      obtain ⟨c, k⟩ := x
      rw [k2] at hs ⊢
      exact Cov.full (Nat.le_refl _) hs (by simp)
end Go.Proofs.YtcpkpljeimbdiaaGreat.W
namespace Go.Proofs.YtcpkpljeimbdiaaGreat.W
open Go.RowKit
open Aid K
set_option linter.unusedSimpArgs false
set_option linter.unusedVariables false
theorem OnD.free {st : DSt} {c : Sg} {C : List Sg} {l : Option (Sg × Nat)} (h : OnD st (c :: C) l) : OnD (freeF st (4 * c.nu + 1)) C l := by
  have hasc := h.asc
  have hall : all (c :: C) l = c :: all C l := by cases l <;> rfl
  rw [hall] at hasc
  obtain ⟨a1, a2⟩ := List.pairwise_cons.1 hasc
  refine ⟨fun d hd => ?_, fun c' k e => ?_, a2, fun d hd => h.ok d (by rw [hall]; exact List.mem_cons_of_mem _ hd), fun n hn ha => ?_, ?_⟩
  · have := a1 d (mem_all_left hd)
    exact (h.cls d (List.mem_cons_of_mem _ hd)).same (fun m => by rw [free_F, if_neg (by omega)]) (by rw [free_A, if_neg (by omega)])
  · subst e
    have := a1 c' mem_all_last
    obtain ⟨q1, q2⟩ := h.lst c' k rfl
    exact ⟨q1.same (fun m => by rw [free_F, if_neg (by omega)]), q2⟩
  · rw [free_A] at ha
    split at ha
    · cases ha
    · rename_i hne
      obtain ⟨d, hd, hdn⟩ := h.only n hn ha
      rw [hall] at hd
      rcases List.mem_cons.1 hd with rfl | hd
      · exact absurd (by rw [hdn]) hne
      · exact ⟨d, hd, hdn⟩
  · have := h.conn
    rw [hall] at this
    exact this.tail
def Full (l : Option (Sg × Nat)) : Prop := ∀ c k, l = some (c, k) → k = (segT c.ix c.bs).length
theorem Cov.last {d : Int} {r : Lg} {was : List Lg} {C : List Sg} {l : Option (Sg × Nat)} (hl : Full l) (h : Suf r (chD d (all C l))) (hr : r ∈ was) : Cov d was C l := by
  cases l with
  | none => rintro X rfl; exact ⟨r, hr, h⟩
  | some x =>
    obtain ⟨c, k⟩ := x
    rw [hl c k rfl]
    exact Cov.full (Nat.le_refl _) h hr
theorem free_room (st : DSt) (a : Int) : (freeF st a).room = st.room + st.N a := rfl
theorem frF_seg {d : Int} : ∀ (f : Nat) {s : LSt} {st : DSt} {C : List Sg} {l : Option (Sg × Nat)}, LgD d s st C l → Full l →
    Pln (frF f s st s.first).2 ∧ st.room ≤ (frF f s st s.first).2.room ∧ ∃ C', OnD (frF f s st s.first).2 C' l ∧ Suf (s.first, s.L) (chD d (all C' l)) ∧ (∀ x ∈ all C' l, x ∈ all C l) ∧
      ((frF f s st s.first).2.dead = true ∨ ((frF f s st s.first).1.code = 0 ∧ LgD d (frF f s st s.first).1 (frF f s st s.first).2 C' l))
  | 0, s, st, C, l, h, hl => ⟨h.pln, Int.le_refl _, C, h.ond, h.suf, fun _ hx => hx, .inr ⟨h.code, h⟩⟩
  | f + 1, s, st, C, l, h, hl => by
    rw [frF]
    by_cases hc : 1 < s.old.length ∧ (s.old.tail.any fun x => decide (x.2 ≤ s.first)) = true
    · rw [if_pos hc]
      have hold := h.old
      have hlen : s.old.length = (all C l).length := by rw [hold, List.length_map]
      obtain ⟨c, C1, rfl⟩ : ∃ c C1, C = c :: C1 := by
        cases C with
        | cons c C1 => exact ⟨c, C1, rfl⟩
        | nil =>
          have := hc.1
          rw [hlen] at this
          cases l with
          | none => simp [all] at this
          | some x => simp [all] at this
      have hall : all (c :: C1) l = c :: all C1 l := by cases l <;> rfl
      rw [hall] at hold
      rw [List.map_cons] at hold
      have hhd : (s.old.headD (0, 0)).1 = c.nu := by rw [hold]; rfl
      have htl : s.old.tail = (all C1 l).map fun c => (c.nu, (c.ix : Int)) := by rw [hold]; rfl
      simp only
      rw [hhd]
      by_cases ht : (tickF st).dead = true
      · have hE : doE st 2 (4 * c.nu + 1) 0 [] = 30 := by unfold doE; rw [if_neg (by decide), if_pos (.inr rfl), if_pos ht]
        have hS : doS st 2 (4 * c.nu + 1) 0 [] = tickF st := by unfold doS; rw [if_neg (by decide), if_neg (by decide), if_pos rfl, if_pos ht]
        rw [if_pos (by rw [hE]; decide), hS]
        obtain ⟨t1, t2, _⟩ := tick_same st
        refine ⟨h.pln.same t1 t2, ?_, c :: C1, h.ond.same t1 t2, h.suf, fun _ hx => hx, .inl ht⟩
        simp only
        unfold tickF
        split
        · exact Int.le_refl _
        · exact Int.le_refl _
      · have hE : doE st 2 (4 * c.nu + 1) 0 [] = 0 := by unfold doE; rw [if_neg (by decide), if_pos (.inr rfl), if_neg ht]
        have hS : doS st 2 (4 * c.nu + 1) 0 [] = freeF st (4 * c.nu + 1) := by unfold doS; rw [if_neg (by decide), if_neg (by decide), if_pos rfl, if_neg ht]
        rw [if_neg (by rw [hE]; decide), hS]
        have hO := h.ond.free
        have hsuf : Suf (s.first, s.L) (chD d (all C1 l)) := by
          have hany := hc.2
          rw [htl] at hany
          obtain ⟨y, hy, hy2⟩ := List.any_eq_true.1 hany
          obtain ⟨e, he, rfl⟩ := List.mem_map.1 hy
          have hy2 : (e.ix : Int) ≤ s.first := of_decide_eq_true hy2
          have h1 := chD_first (d := d) he
          have hs := h.suf
          rw [hall] at hs
          have hconn := h.ond.conn
          rw [hall] at hconn
          cases hA : all C1 l with
          | nil => rw [hA] at he; cases he
          | cons e1 t1 =>
            rw [hA] at hs hconn h1
            exact hs.two (chD_tail hconn) (by simp only; omega)
        have hnew : LgD d { s with old := s.old.tail } (freeF st (4 * c.nu + 1)) C1 l := by
          refine ⟨hO, h.pln.free, (tick_false (by simpa using ht)).2, h.code, ?_, htl, fun x hx => h.nxt x (by rw [hall]; exact List.mem_cons_of_mem _ hx), h.nx, hsuf⟩
          have ho := h.opn
          have hasc := h.ond.asc
          rw [hall] at hasc
          simp only
          cases hq : s.opn with
          | none => rw [hq] at ho; cases l with
            | none => trivial
            | some x => exact ho.elim
          | some q =>
            rw [hq] at ho
            cases l with
            | none => exact ho.elim
            | some x =>
              obtain ⟨c', k'⟩ := x
              have ho : OpOf st q c' := ho
              have hne := (List.pairwise_cons.1 hasc).1 c' mem_all_last
              exact (⟨ho.nu, ho.ix, fun m => (ho.cur m).same (fun m => by rw [free_F, if_neg (show ¬ (4 * c'.nu + 1 = 4 * c.nu + 1) by omega)]), ho.rest, ho.fu⟩ : OpOf _ q c')
        obtain ⟨q1, q2, C2, q3, q4, q5, q6⟩ := frF_seg f hnew hl
        refine ⟨q1, ?_, C2, q3, q4, fun x hx => by rw [hall]; exact List.mem_cons_of_mem _ (q5 x hx), q6⟩
        have := free_room st (4 * c.nu + 1)
        simp only at q2
        omega
    · rw [if_neg hc]
      exact ⟨h.pln, Int.le_refl _, C, h.ond, h.suf, fun _ hx => hx, .inr ⟨h.code, h⟩⟩
theorem frF_set (x : Int) (F : Int) (L : List (List Int)) : ∀ (f : Nat) (s : LSt) (st : DSt), frF f { s with L := L, first := F } st x = ({ (frF f s st x).1 with L := L, first := F }, (frF f s st x).2)
  | 0, s, st => rfl
  | f + 1, s, st => by
    rw [frF, frF]
    simp only
    split
    · split
      · rfl
      · exact frF_set x F L f { s with old := s.old.tail } _
    · rfl
theorem coS_after {d : Int} {was : List Lg} {s : LSt} {st : DSt} {C : List Sg} {l : Option (Sg × Nat)} {n x R : Int} {k i : Nat} (h : LgD d s st C l) (hc : Cov d was C l) (hv : Inv s st R k i) (hk : k ≤ 1999990) (hr : 610 ≤ st.room) (ht : s.first + s.L.length < 4611686018427387904) (hw : (s.first, s.L) ∈ was)
    (hx : x = IntKind.u64.wrap (s.first + IntKind.u64.wrap n)) (hn : -1000000000000 < n ∧ n < 1000000000000) {E K : Int} (hB : Bd (all C l) E K) (hE : s.first + s.L.length ≤ E) (hK : s.next ≤ K) :
    After d was (st.room - 610) E K (coS s st x) (if x ≤ s.first then (s.first, s.L) else if IntKind.u64.wrap (s.first + s.L.length) < x then (s.first, s.L) else (x, s.L.drop n.toNat))
      (if x ≤ s.first then 0 else if IntKind.u64.wrap (s.first + s.L.length) < x then 51 else 0) false := by
  have hf := hv.first
  have hend : IntKind.u64.wrap (s.first + s.L.length) = s.first + s.L.length := by rw [IntKind.wrap_u64]; omega
  rw [hend]
  rw [IntKind.wrap_u64, IntKind.wrap_u64] at hx
  unfold coS
  rw [if_neg (by rw [h.code]; decide)]
  by_cases hlo : x ≤ s.first
  · rw [if_pos hlo, if_pos hlo, if_pos hlo]
    exact After.still h hc hB (by omega)
  rw [if_neg hlo, if_neg hlo, if_neg hlo]
  by_cases hhi : s.first + s.L.length < x
  · rw [if_pos hhi, if_pos hhi, if_pos (by omega)]
    exact After.still h hc hB (by omega)
  rw [if_neg hhi, if_neg hhi, if_neg (by omega)]
  have hxn : x = s.first + n := by omega
  have hdn : (x - s.first).toNat = n.toNat := by omega
  rw [hdn]
  simp only
  obtain ⟨r', hr'⟩ : ∃ r' : Lg, r' = (x, s.L.drop n.toNat) := ⟨_, rfl⟩
  rw [← hr']
  obtain ⟨y, hy⟩ : ∃ y, (if x = s.first + s.L.length then beS s st x else (s, st)) = y := ⟨_, rfl⟩
  rw [hy]
  have key : Pln y.2 ∧ st.room - 10 ≤ y.2.room ∧ ((y.2.dead = true ∧ y.1.code = 30 ∧ ∃ C1 l1, OnD y.2 C1 l1 ∧ Cov d (was ++ [r']) C1 l1 ∧ Bd (all C1 l1) (E + 1) (K + 1)) ∨ (y.1.first = s.first ∧ y.1.L = s.L ∧ ∃ C1 l1, LgD d y.1 y.2 C1 l1 ∧ Cov d (was ++ [r']) C1 l1 ∧ Bd (all C1 l1) (E + 1) (K + 1))) := by
    rw [← hy]
    by_cases he : x = s.first + s.L.length
    · rw [if_pos he]
      obtain ⟨ix, hix⟩ : ∃ ix : Nat, x = ix := ⟨x.toNat, by omega⟩
      have hbI := hv.begin (ix := x) (by omega) h.code (by omega) (by omega)
      have hbg := h.begin (ix := ix) (by omega) (by omega) (by omega) (by have := hv.next; omega) (by omega)
      rw [← hix] at hbg
      obtain ⟨z1, z2⟩ := beS_same s st x
      have htk : s.L.take (x - s.first).toNat = s.L := List.take_of_length_le (by omega)
      rw [htk] at hbg
      obtain ⟨g1, g2, g3⟩ := hbg
      have hnil : all C l = [] → s.first = d := fun hnil => by have := h.suf; rw [hnil] at this; exact (Suf.void this).1
      have hfr : ∀ k, Cov d was (all C l) (some (⟨s.next, ix, []⟩, k)) := fun k => Cov.fresh (s := (s.first, s.L)) h.suf (by simp only; omega) (by simp only; omega) hnil hw (by simp only; rw [← hix, htk]; exact hw) k
      have hB1 : Bd (all (all C l) (some (⟨s.next, ix, []⟩, 0))) (E + 1) (K + 1) := Bd.snoc (fun c hc => by have := hB c hc; omega) (by simp only [List.length_nil]; omega) (by simp only; omega)
      refine ⟨g2, g1, ?_⟩
      rcases g3 with ⟨g3, g4⟩ | ⟨g3, g4⟩
      · left
        refine ⟨g3, hbI.pd g3, ?_⟩
        rcases g4 with g4 | g4
        · exact ⟨_, _, g4, hc.mono (fun r hr => by simp [hr]), hB.next⟩
        · exact ⟨_, _, g4, (hfr 0).mono (fun r hr => by simp [hr]), hB1⟩
      · right
        have e : ({ (beS s st x).1 with L := s.L } : LSt) = (beS s st x).1 := by rw [← z2]
        exact ⟨z1, z2, _, _, e ▸ g4, (hfr 0).mono (fun r hr => by simp [hr]), hB1⟩
    · rw [if_neg he]
      exact ⟨h.pln, by simp only; omega, .inr ⟨rfl, rfl, C, l, h, hc.mono (fun r hr => by simp [hr]), hB.next⟩⟩
  have hyI : Inv y.1 y.2 R (k + 1) (i + 1100) := by
    rw [← hy]
    split
    · exact hv.begin (by omega) h.code (by omega) (by omega)
    · exact hv.mono (by omega) (by omega)
  have hyF := hyI.sync.fit
  obtain ⟨k1, k2, k3⟩ := key
  rcases k3 with ⟨k3, k4, C1, l1, k5, k6, k7⟩ | ⟨k3, k4, C1, l1, k5, k6, k7⟩
  · have hsy : syS y.1 y.2 = y := by unfold syS; rw [if_pos (by rw [k4]; decide)]
    rw [hsy, if_pos (by rw [k4]; decide)]
    exact room_dead k1 (by simp only; omega) k3 k5 k6 k7
  · have hroom := LgD.room_sync (s := y.1) (st := y.2)
    have hpd : Pd (y.1, y.2) := fun hh => by have := k5.dead; simp only at hh; rw [this] at hh; cases hh
    rcases k5.sync with ⟨j1, j2, j3⟩ | ⟨j1, l', j2, j3, j4⟩
    · have hcode : (syS y.1 y.2).1.code = 30 := syS_pd hpd j1
      rw [if_pos (by rw [hcode]; decide)]
      exact room_dead j3 (by simp only; omega) j1 j2 k6 k7
    · rw [if_neg (by rw [j1, k5.code]; decide), j1]
      obtain ⟨st2, hst2⟩ : ∃ st2, (syS y.1 y.2).2 = st2 := ⟨_, rfl⟩
      rw [hst2] at j3 hroom hyF ⊢
      have hfull : Full l' := by
        intro c k e
        rw [j2] at e
        cases l1 with
        | none => cases e
        | some z => cases e; rfl
      have hL2 : LgD d { y.1 with L := s.L.drop n.toNat, first := x } st2 C1 l' := by
        refine ⟨j3.ond, j3.pln, j3.dead, j3.code, j3.opn, j3.old, j3.nxt, j3.nx, ?_⟩
        have := j3.suf.later (i := x) (by simp only; omega) (by simp only; rw [k3, k4]; omega)
        simp only at this ⊢
        rw [k3, k4, hdn] at this
        exact this
      have hfr := frF_seg y.1.old.length hL2 hfull
      simp only at hfr
      rw [frF_set] at hfr
      obtain ⟨f1, f2, C2, f3, f4, hsub, f5⟩ := hfr
      have hall1 : all C1 l' = all C1 l1 := by
        rw [j2]
        cases l1 <;> rfl
      have hB2 : Bd (all C2 l') (E + 1) (K + 1) := fun c hc => k7 c (by rw [← hall1]; exact hsub c hc)
      simp only at f1 f2 f3 f5
      have hcov : Cov d (was ++ [r']) C2 l' := Cov.last hfull f4 (by rw [hr']; simp)
      obtain ⟨p1, _, _, p4, _⟩ := frF_all y.1.old.length (s := y.1) (st := st2) (x := x) (fun hh => by have := j3.dead; simp only at hh; rw [this] at hh; cases hh) j3.code hyF
      rw [k4] at p4
      rcases f5 with f5 | ⟨f5, f6⟩
      · have hcode := p1 f5
        rw [if_pos (by rw [hcode]; decide)]
        exact room_dead f1 (by simp only; omega) f5 f3 hcov hB2
      · rw [if_neg (by rw [f5]; decide), p4]
        refine ⟨f1, by simp only; omega, .inr ⟨f6.dead, rfl, hr'.symm, C2, l', f6, hcov, hB2⟩⟩
theorem doesS_after {d : Int} {was : List Lg} {s : LSt} {st : DSt} {C : List Sg} {l : Option (Sg × Nat)} {kd n R : Int} {b : List Int} {k i : Nat} (h : LgD d s st C l) (hc : Cov d was C l) (hv : Inv s st R k i) (hk : k ≤ 1999990) (hb8 : By8 b) (hr : 610 ≤ st.room) (ht : s.first + s.L.length < 4611686018427387904) (hw : (s.first, s.L) ∈ was)
    (hn : -1000000 < n ∧ n < 1000000) {E K : Int} (hB : Bd (all C l) E K) (hE : s.first + s.L.length ≤ E) (hK : s.next ≤ K) :
    After d was (st.room - 610) E K (doesS s st kd n b) (doF (s.first, s.L) kd n b).1 (doF (s.first, s.L) kd n b).2 (decide (kd = 1)) := by
  unfold doesS doF
  simp only
  by_cases h0 : kd = 0
  · subst h0
    rw [if_pos rfl, if_pos rfl]
    have := apS_after h hc hv hk hb8 hr ht hw hB hE hK
    rw [show decide ((0 : Int) = 1) = false by decide]
    split <;> rename_i hb
    · rw [if_pos hb, if_pos hb] at this; exact this
    · rw [if_neg hb, if_neg hb] at this; exact this
  rw [if_neg h0, if_neg h0]
  by_cases h1 : kd = 1
  · subst h1
    rw [if_pos rfl, if_neg (by decide), if_neg (by decide), show decide ((1 : Int) = 1) = true by decide]
    obtain ⟨q1, q2, q3⟩ := syS_after h hc hB
    exact ⟨q1, by omega, q3⟩
  rw [if_neg h1, show decide (kd = 1) = false from decide_eq_false h1]
  by_cases h2 : kd = 2
  · subst h2
    rw [if_pos rfl, if_pos rfl]
    have := trS_after h hc hv hk hr ht hw (n := n) rfl hn hB hE hK
    split <;> rename_i hb
    · rw [if_pos hb, if_pos hb] at this; exact this
    · rw [if_neg hb, if_neg hb] at this; exact this
  rw [if_neg h2, if_neg h2]
  by_cases h3 : kd = 3
  · subst h3
    rw [if_pos rfl, if_pos rfl]
    have := coS_after h hc hv hk hr ht hw (n := n) rfl (by omega) hB hE hK
    split <;> rename_i hb
    · rw [if_pos hb, if_pos hb] at this; exact this
    · rw [if_neg hb, if_neg hb] at this
      split <;> rename_i hb2
      · rw [if_pos hb2, if_pos hb2] at this; exact this
      · rw [if_neg hb2, if_neg hb2] at this; exact this
  rw [if_neg h3, if_neg h3]
  exact After.still h hc hB (by omega)
end Go.Proofs.YtcpkpljeimbdiaaGreat.W
namespace Go.Proofs.YtcpkpljeimbdiaaGreat.W
open Go.RowKit
open Aid K
set_option linter.unusedSimpArgs false
set_option linter.unusedVariables false
def logOf (d : Int) (A : List Sg) (nx : Int) : LSt := ⟨none, (chD d A).1, (chD d A).2, A.map (fun c => (c.nu, (c.ix : Int))), nx, 0⟩
theorem logOf_nil (d nx : Int) : logOf d [] nx = ⟨none, d, [], [], nx, 0⟩ := rfl
theorem fol_seg {d : Int} {A : List Sg} {c : Sg} {nx : Int} (hc : Conn (A ++ [c])) :
    ∃ s', folF (logOf d A nx) c.nu c.ix = some s' ∧ ({ s' with L := s'.L ++ c.bs } : LSt) = logOf d (A ++ [c]) nx := by
  obtain ⟨h1, h2⟩ := Conn.front hc
  unfold folF
  by_cases hn : A = []
  · subst hn
    rw [if_pos (.inl rfl)]
    exact ⟨_, rfl, rfl⟩
  · have hne : (logOf d A nx).old ≠ [] := by unfold logOf; simpa using hn
    have hend := chD_end (d := d) h1 hn
    have hs := chD_snoc (d := d) (c := c) hn
    have h3 := h2 hn
    by_cases hlt : (c.ix : Int) < (chD d A).1
    · rw [if_pos (.inr hlt)]
      refine ⟨_, rfl, ?_⟩
      unfold logOf
      rw [hs]
      unfold lay
      rw [if_pos hlt]
      simp
    · have e1 : ¬ ((logOf d A nx).old = [] ∨ (c.ix : Int) < (logOf d A nx).first) := fun h => h.elim hne hlt
      have e2 : ¬ (((logOf d A nx).L.length : Int) < (c.ix : Int) - (logOf d A nx).first) := by
        show ¬ (((chD d A).2.length : Int) < (c.ix : Int) - (chD d A).1)
        omega
      rw [if_neg e1, if_neg e2]
      refine ⟨_, rfl, ?_⟩
      unfold logOf
      rw [hs]
      unfold lay
      rw [if_neg hlt]
      simp
theorem opL_segs {st : DSt} {fr d nx : Int} : ∀ (X A : List Sg) (tl g : List Int), Conn (A ++ X) → (∀ c ∈ X, SgOk c ∧ ReadsAs (textF st (4 * c.nu + 1) 65537 0) c.ix c.bs) → (∀ c ∈ X, fr ≤ c.nu) →
    opL st fr (X.map (fun c => c.nu) ++ tl) (logOf d A nx) g = opL st fr tl (logOf d (A ++ X) nx) g
  | [], A, tl, g, _, _, _ => by simp
  | c :: X, A, tl, g, hC, hX, hfr => by
    obtain ⟨h1, h2⟩ := hX c (by simp)
    have hC' : Conn ((A ++ [c]) ++ X) := by rw [List.append_assoc]; exact hC
    have hcc : Conn (A ++ [c]) := by
      have key : ∀ (P Q : List Sg), Conn (P ++ Q) → Conn P := by
        intro P
        induction P with
        | nil => intro _ _; trivial
        | cons a P ih =>
          intro Q h
          cases P with
          | nil => trivial
          | cons b P => exact ⟨h.1, ih Q h.2⟩
      exact key _ _ hC'
    obtain ⟨s', e1, e2⟩ := fol_seg (d := d) (nx := nx) hcc
    rw [List.map_cons, List.cons_append, opL]
    have h0 := hfr c (by simp)
    have hr : rdS (logOf d A nx) c.nu (textF st (4 * c.nu + 1) 65537 0) = (logOf d (A ++ [c]) nx, true, false) := by
      rw [h2 (logOf d A nx) c.nu, e1]
      show (({ s' with L := s'.L ++ c.bs } : LSt), true, false) = _
      rw [e2]
    have hr2 : (if c.nu < fr then (logOf d A nx, true, true) else rdS (logOf d A nx) c.nu (textF st (4 * c.nu + 1) 65537 0)) = (logOf d (A ++ [c]) nx, true, false) := by rw [if_neg (by omega)]; exact hr
    simp only [hr2]
    have hend := chD_end (d := d) hcc (by simp)
    rw [endS_snoc] at hend
    have htop := h1.top
    rw [if_neg (by
      rintro (h | h)
      · cases h
      · have h : 4611686018427387904 < (chD d (A ++ [c])).1 + ((chD d (A ++ [c])).2.length : Int) := h
        omega)]
    have ih := opL_segs (d := d) (nx := nx) X (A ++ [c]) tl g hC' (fun x hx => hX x (by simp [hx])) (fun x hx => hfr x (by simp [hx]))
    rw [List.append_assoc] at ih
    simpa using ih
structure Rdy (st : DSt) (X : List Sg) (v : Option Int) : Prop where
  text : ∀ c ∈ X, SgOk c ∧ ReadsAs (textF st (4 * c.nu + 1) 65537 0) c.ix c.bs
  void : ∀ n, v = some n → 0 ≤ n ∧ n < 2305843009213693952 ∧ ∀ (s : LSt) (nu : Int), rdS s nu (textF st (4 * n + 1) 65537 0) = (s, true, true)
  asc : (X.map (fun c => c.nu) ++ v.toList).Pairwise (fun a b => a < b)
  there : ∀ n, 0 ≤ n → (st.A (4 * n + 1) = true ↔ n ∈ X.map (fun c => c.nu) ++ v.toList)
  conn : Conn X
theorem Rdy.nums {st : DSt} {X : List Sg} {v : Option Int} {xs : List Int} (h : Rdy st X v) (hP : Pln st) (hx : AreasOf st xs) : numsF (QU.srt xs) = X.map (fun c => c.nu) ++ v.toList := by
  refine lt_eq (nums_lt hx.1) h.asc (fun y => ?_)
  rw [nums_mem]
  constructor
  · intro hy
    have hw := hx.2.1 _ hy
    have ha := (hx.2.2 _ hw).1 hy
    have := hP.wfa _ ha
    exact (h.there y (by omega)).1 ha
  · intro hy
    have h0 : 0 ≤ y ∧ y < 2305843009213693952 := by
      rcases List.mem_append.1 hy with hy | hy
      · obtain ⟨c, hc, rfl⟩ := List.mem_map.1 hy
        have := (h.text c hc).1
        exact ⟨this.n0, this.n1⟩
      · cases v with
        | none => cases hy
        | some n =>
          have : y = n := by simpa using hy
          rw [this]
          exact ⟨(h.void n rfl).1, (h.void n rfl).2.1⟩
    have ha := (h.there y h0.1).2 hy
    have hw := hP.wfa _ ha
    exact (hx.2.2 _ (wf_u64 hw.1 hw.2)).2 ha
theorem Rdy.goes {st : DSt} {X : List Sg} {v : Option Int} {fr d nx : Int} (h : Rdy st X v) (hd : 0 ≤ d ∧ d ≤ 4611686018427387904) (hfr : ∀ n ∈ X.map (fun c => c.nu) ++ v.toList, fr ≤ n) : opL st fr (X.map (fun c => c.nu) ++ v.toList) (logOf d [] nx) [] = some (logOf d X nx, v.toList) := by
  have := opL_segs (st := st) (fr := fr) (d := d) (nx := nx) X [] v.toList [] (by simpa using h.conn) h.text (fun c hc => hfr c.nu (List.mem_append_left _ (List.mem_map.2 ⟨c, hc, rfl⟩)))
  rw [List.nil_append] at this
  rw [this]
  cases v with
  | none => rfl
  | some n =>
    obtain ⟨h1, _, h2⟩ := h.void n rfl
    have h1 := hfr n (by simp)
    show opL st fr [n] (logOf d X nx) [] = _
    rw [opL]
    have hr2 : (if n < fr then (logOf d X nx, true, true) else rdS (logOf d X nx) n (textF st (4 * n + 1) 65537 0)) = (logOf d X nx, true, true) := by rw [if_neg (by omega)]; exact h2 _ _
    simp only [hr2]
    have htop : (logOf d X nx).first + ((logOf d X nx).L.length : Int) ≤ 4611686018427387904 := by
      show (chD d X).1 + ((chD d X).2.length : Int) ≤ _
      by_cases hn : X = []
      · subst hn
        show d + (([] : List (List Int)).length : Int) ≤ _
        simp only [List.length_nil]
        omega
      · have he := chD_end (d := d) h.conn hn
        have : endS X ≤ 4611686018427387904 := by
          have hl : ∀ (Y : List Sg), Y ≠ [] → (∀ c ∈ Y, SgOk c) → endS Y ≤ 4611686018427387904 := by
            intro Y
            induction Y with
            | nil => intro h; exact absurd rfl h
            | cons a Y ih =>
              intro _ hY
              cases Y with
              | nil => have := (hY a (by simp)).top; show (a.ix : Int) + a.bs.length ≤ _; omega
              | cons b Y => exact ih (by simp) (fun c hc => hY c (by simp [hc]))
          exact hl X hn (fun c hc => (h.text c hc).1)
        omega
    rw [if_neg (by
      rintro (hh | hh)
      · cases hh
      · try simp only at hh
        omega)]
    rfl
theorem nextF_list {xs : List Int} {N : List Int} (h : numsF (QU.srt xs) = N) : nextF 0 (QU.srt xs) = match N.getLast? with | none => 0 | some y => y + 1 := by
  rw [nextF_is, h]
  cases N.getLast? <;> rfl
theorem Rdy.opens {st : DSt} {X : List Sg} {v : Option Int} {fr d : Int} {xs : List Int} {K : Int} (h : Rdy st X v) (hP : Pln st) (hx : AreasOf st xs) (hdead : st.dead = false) (hleft : st.left = -1) (hd : 0 ≤ d ∧ d ≤ 4611686018427387904) (hK : ∀ n ∈ X.map (fun c => c.nu) ++ v.toList, n < K) (hK2 : 0 ≤ K ∧ K ≤ 1152921504606846976) (hfr : ∀ n ∈ X.map (fun c => c.nu) ++ v.toList, fr ≤ n) (hfr0 : 0 ≤ fr ∧ fr ≤ K) :
    ∃ nx st1, opF st xs fr d = (some (logOf d X nx), st1, 0) ∧ LgD d (logOf d X nx) st1 X none ∧ nx ≤ K ∧ st1.left = -1 ∧ st.room ≤ st1.room := by
  have hnum := h.nums hP hx
  have hnx := nextF_list hnum
  obtain ⟨NX, hNX⟩ : ∃ NX, nextF 0 (QU.srt xs) = NX := ⟨_, rfl⟩
  rw [hNX] at hnx
  have hlist : ∀ n ∈ X.map (fun c => c.nu) ++ v.toList, 0 ≤ n ∧ n < NX := by
    intro n hn
    have hall : ∀ m ∈ X.map (fun c => c.nu) ++ v.toList, 0 ≤ m := by
      intro m hm
      rcases List.mem_append.1 hm with hm | hm
      · obtain ⟨c, hc, rfl⟩ := List.mem_map.1 hm
        exact (h.text c hc).1.n0
      · cases v with
        | none => cases hm
        | some y => have : m = y := by simpa using hm
                    rw [this]; exact (h.void y rfl).1
    refine ⟨hall n hn, ?_⟩
    cases hg : (X.map (fun c => c.nu) ++ v.toList).getLast? with
    | none => rw [List.getLast?_eq_none_iff.1 hg] at hn; cases hn
    | some y =>
      rw [hg] at hnx
      simp only at hnx
      obtain ⟨ys, hys⟩ := List.getLast?_eq_some_iff.1 hg
      have hasc := h.asc
      rw [hys] at hn hasc
      rcases List.mem_append.1 hn with hn | hn
      · have := (List.pairwise_append.1 hasc).2.2 n hn y (by simp)
        omega
      · rw [List.mem_singleton] at hn; omega
  have hNK : 0 ≤ NX ∧ NX ≤ K := by
    cases hg : (X.map (fun c => c.nu) ++ v.toList).getLast? with
    | none => rw [hg] at hnx; simp only at hnx; omega
    | some y =>
      rw [hg] at hnx
      simp only at hnx
      have hm := List.mem_of_getLast? hg
      have := hK y hm
      have := (hlist y hm).1
      omega
  obtain ⟨MX, hMX⟩ : ∃ MX, max NX fr = MX := ⟨_, rfl⟩
  have hgo := h.goes (nx := MX) hd hfr
  have hset := setF_calm2 (numsF (QU.srt xs)) v.toList st hdead hleft
  have hnd : (numsF (QU.srt xs)).Nodup := (nums_lt hx.1).imp fun {a b} hab => by omega
  obtain ⟨st1, hst1⟩ : ∃ st1, (setF (numsF (QU.srt xs)) v.toList st).1 = st1 := ⟨_, rfl⟩
  have hpair : setF (numsF (QU.srt xs)) v.toList st = (st1, 0) := Prod.ext hst1 hset.1
  obtain ⟨z1, z2, z3, z4, z5⟩ := setF_is _ v.toList st st1 hnd hpair
  have hP1 : Pln st1 := by
    have key : ∀ (N : List Int) (st : DSt), Pln st → (∀ n ∈ N, 0 ≤ n ∧ 4 * n + 1 < 18446744073709551616) → Pln (setF N v.toList st).1 := by
      intro N
      induction N with
      | nil => intro st h _; exact h
      | cons n N ih =>
        intro st hp hN
        obtain ⟨k, hk⟩ : ∃ k : Int, (if hasB v.toList n = true then 2 else 1) = k := ⟨_, rfl⟩
        rw [setF]
        simp only [hk]
        have hn := hN n (by simp)
        split
        · exact hp.does ⟨by omega, hn.2⟩
        · exact ih _ (hp.does ⟨by omega, hn.2⟩) (fun x hx => hN x (by simp [hx]))
    rw [← hst1]
    exact key _ _ hP (nums_range hP hx)
  have hroom : st.room ≤ st1.room := by
    have key : ∀ (N : List Int) (st : DSt), st.dead = false → st.left = -1 → st.room ≤ (setF N v.toList st).1.room := by
      intro N
      induction N with
      | nil => intro st _ _; exact Int.le_refl _
      | cons n N ih =>
        intro st hd1 hl1
        obtain ⟨k, hk⟩ : ∃ k : Int, (if hasB v.toList n = true then 2 else 1) = k := ⟨_, rfl⟩
        have hk12 : k = 1 ∨ k = 2 := by rw [← hk]; split <;> simp
        have hdo := does_calm (a := 4 * n + 1) (n := 0) (l := []) (.inr hk12) hd1 hl1
        have ht : ¬ (tickF st).dead = true := by unfold tickF; rw [if_neg (by rw [hd1]; decide), (step_calm hl1).1]; decide
        have hr : st.room ≤ (doS st k (4 * n + 1) 0 []).room := by
          rcases hk12 with rfl | rfl
          · unfold doS
            rw [if_neg (by decide), if_pos rfl, if_neg ht]
            exact Int.le_refl _
          · unfold doS
            rw [if_neg (by decide), if_neg (by decide), if_pos rfl, if_neg ht]
            show st.room ≤ st.room + (st.N (4 * n + 1) : Int)
            omega
        have he : doE st k (4 * n + 1) 0 [] = 0 := by unfold doE; rw [if_neg (by omega), if_pos hk12, if_neg ht]
        rw [setF]
        simp only [hk]
        rw [if_neg (by rw [he]; simp)]
        exact Int.le_trans hr (ih _ hdo.1 hdo.2)
    rw [← hst1]
    exact key _ _ hdead hleft
  rw [hst1] at hset
  refine ⟨MX, st1, ?_, ?_, by omega, hset.2.2, hroom⟩
  · unfold opF
    rw [if_neg (by rw [hdead]; decide), if_neg (by omega)]
    simp only
    rw [hNX, hMX, if_neg (by omega), hnum]
    rw [← logOf_nil, hgo]
    simp only
    rw [← hnum, hpair]
    rfl
  · rw [hnum] at z3 z4 z5
    have hnv : ∀ c ∈ X, c.nu ∉ v.toList := by
      intro c hc hv
      have := (List.pairwise_append.1 h.asc).2.2 c.nu (List.mem_map.2 ⟨c, hc, rfl⟩) c.nu hv
      omega
    have hmem : ∀ c ∈ X, c.nu ∈ X.map (fun c => c.nu) ++ v.toList := fun c hc => List.mem_append_left _ (List.mem_map.2 ⟨c, hc, rfl⟩)
    have hFs : ∀ c ∈ X, ∀ m : Nat, st1.F (4 * c.nu + 1) m = (st.F (4 * c.nu + 1) m).map lastS := by
      intro c hc m
      have h5 := (z5 c.nu (hmem c hc) (hnv c hc)).1 m
      by_cases hw : (Lit.int .i64 (m : Int)).wf = true
      · exact h5 hw
      · have no : ∀ {s : DSt}, Pln s → s.F (4 * c.nu + 1) m = none := fun {s} hp => by
          cases hF : s.F (4 * c.nu + 1) m with
          | none => rfl
          | some sc => exact absurd (wf_i64 (by omega) (by have := hp.few (4 * c.nu + 1) m (by rw [hF]; rfl); omega)) hw
        rw [no hP1, no hP]
        rfl
    refine ⟨⟨fun c hc => ⟨fun m => ?_, ?_, ?_⟩, (fun c k e => by cases e), ?_, fun c hc => (h.text c hc).1, fun n hn ha => ?_, h.conn⟩, hP1, hset.2.1, rfl, trivial, rfl, fun c hc => ?_, (show 0 ≤ MX by omega), Suf.refl _⟩
    · rw [hFs c hc m]
      cases st.F (4 * c.nu + 1) m with
      | none => exact .inl rfl
      | some sc => exact .inr ⟨_, rfl⟩
    · rw [textF_ext (st := st) (st2 := st1) (a := 4 * c.nu + 1) (fun m => by
        unfold sectF
        rw [hFs c hc m]
        cases st.F (4 * c.nu + 1) m with
        | none => rfl
        | some sc => rfl) 65537 0]
      exact (h.text c hc).2
    · rw [(z5 c.nu (hmem c hc) (hnv c hc)).2]
      exact (h.there c.nu (h.text c hc).1.n0).2 (hmem c hc)
    · have := (List.pairwise_append.1 h.asc).1
      exact List.pairwise_map.1 this
    · by_cases hmn : n ∈ X.map (fun c => c.nu) ++ v.toList
      · by_cases hv : n ∈ v.toList
        · rw [(z4 n hmn hv).2] at ha; cases ha
        · rcases List.mem_append.1 hmn with hm | hm
          · obtain ⟨c, hc, rfl⟩ := List.mem_map.1 hm
            exact ⟨c, hc, rfl⟩
          · exact absurd hm hv
      · rw [(z3 (4 * n + 1) (fun x hx e => hmn ((show n = x by omega) ▸ hx))).2] at ha
        exact absurd ((h.there n hn).1 ha) hmn
    · have := (hlist c.nu (hmem c hc)).2
      show c.nu < MX
      omega
theorem Fnd.syn {o o' : Option Sec} (h : Fnd o o') : FndS o o' := ⟨h.1, fun L s e hL => by
  rcases (h.2 L s e).1 with ⟨h1, h2⟩ | h1
  · refine .inl ⟨h1, ?_⟩
    cases s with
    | false => rfl
    | true => exact absurd (h2 rfl) hL
  · exact .inr h1⟩
theorem OnD.found {st st2 : DSt} {C : List Sg} {l : Option (Sg × Nat)} (h : OnD st C l) (hf : ∀ a n, Fnd (st.F a n) (st2.F a n)) (hp : ∀ a, st.A a = true ↔ ∃ n, (st.F a n).isSome = true) (hp2 : ∀ a, st2.A a = true ↔ ∃ n, (st2.F a n).isSome = true) (hfew : ∀ a n, (st.F a n).isSome = true → 0 ≤ n) :
    ∃ X v, Out C l X ∧ Rdy st2 X v ∧ ∀ n ∈ X.map (fun c => c.nu) ++ v.toList, n ∈ (all C l).map (fun c => c.nu) := by
  have hone : ∀ c ∈ C, ∀ m : Nat, st2.F (4 * c.nu + 1) m = st.F (4 * c.nu + 1) m := by
    intro c hc m
    rcases (h.cls c hc).one m with h1 | ⟨V, h1⟩
    · rw [h1]; exact (hf _ _).1 h1
    · rw [h1]; exact ((hf _ _).2 _ _ h1).2 rfl V rfl
  have hsub : ∀ a, st2.A a = true → st.A a = true := by
    intro a ha
    obtain ⟨n, hn⟩ := (hp2 a).1 ha
    refine (hp a).2 ⟨n, ?_⟩
    cases hF : st.F a n with
    | some sc => rfl
    | none => rw [(hf a n).1 hF] at hn; cases hn
  have hcl : ∀ c ∈ C, SgOk c ∧ ReadsAs (textF st2 (4 * c.nu + 1) 65537 0) c.ix c.bs := by
    intro c hc
    refine ⟨h.ok c (mem_all_left hc), ?_⟩
    rw [textF_ext (st := st) (st2 := st2) (a := 4 * c.nu + 1) (fun m => by unfold sectF; rw [hone c hc m]) 65537 0]
    exact (h.cls c hc).text
  have hclA : ∀ c ∈ C, st2.A (4 * c.nu + 1) = true := by
    intro c hc
    obtain ⟨n, hn⟩ := (hp _).1 (h.cls c hc).there
    refine (hp2 _).2 ⟨n, ?_⟩
    have h0 := hfew _ _ hn
    have := hone c hc n.toNat
    rw [show ((n.toNat : Nat) : Int) = n by omega] at this
    rw [this]; exact hn
  have hasc := h.asc
  cases l with
  | none =>
    refine ⟨C, none, rfl, ⟨hcl, (fun n e => by cases e), ?_, fun n hn => ⟨fun ha => ?_, fun hm => ?_⟩, h.conn⟩, fun n hn => by simpa [all] using hn⟩
    · simp only [Option.toList_none, List.append_nil]
      exact List.pairwise_map.2 hasc
    · obtain ⟨c, hc, rfl⟩ := h.only n hn (hsub _ ha)
      simp only [Option.toList_none, List.append_nil]
      exact List.mem_map.2 ⟨c, hc, rfl⟩
    · simp only [Option.toList_none, List.append_nil] at hm
      obtain ⟨c, hc, rfl⟩ := List.mem_map.1 hm
      exact hclA c hc
  | some x =>
    obtain ⟨c, k⟩ := x
    obtain ⟨h1, h2⟩ := h.lst c k rfl
    have hok := h.ok c mem_all_last
    obtain ⟨q1, q2⟩ := h1.found (st2 := st2) (fun m => (hf _ _).syn)
    obtain ⟨t, t1, t2, t3⟩ := text_sees q1 h1.le (by omega)
    have hasc' : (C.map (fun c => c.nu) ++ [c.nu]).Pairwise (fun a b => a < b) := by
      have := List.pairwise_map.2 hasc
      simpa [all] using this
    have hcut := fun (s : LSt) (nu : Int) => rdS_cut (s := s) (nu := nu) (ix := c.ix) (m := t) (bs := c.bs) (by have := hok.top; omega) hok.size
    by_cases ht : t < (putU c.ix).length
    · refine ⟨C, (if st2.A (4 * c.nu + 1) = true then some c.nu else none), ⟨t, t1, t2, by rw [if_pos ht]⟩, ⟨hcl, fun n e => ?_, ?_, fun n hn => ⟨fun ha => ?_, fun hm => ?_⟩, (Conn.front (C := C) (c := c) h.conn).1⟩, fun n hn => ?_⟩
      · split at e
        · cases e
          refine ⟨hok.n0, hok.n1, fun s nu => ?_⟩
          rw [t3, hcut s nu, if_pos ht]
        · cases e
      · split
        · exact hasc'
        · simp only [Option.toList_none, List.append_nil]
          exact (List.pairwise_append.1 hasc').1
      · obtain ⟨c', hc', rfl⟩ := h.only n hn (hsub _ ha)
        rcases List.mem_append.1 hc' with hc' | hc'
        · exact List.mem_append_left _ (List.mem_map.2 ⟨c', hc', rfl⟩)
        · rw [List.mem_singleton] at hc'
          subst hc'
          rw [if_pos ha]
          simp
      · rcases List.mem_append.1 hm with hm | hm
        · obtain ⟨c', hc', rfl⟩ := List.mem_map.1 hm
          exact hclA c' hc'
        · split at hm
          · rename_i hh
            have : n = c.nu := by simpa using hm
            rw [this]; exact hh
          · cases hm
      · rcases List.mem_append.1 hn with hn | hn
        · obtain ⟨c', hc', rfl⟩ := List.mem_map.1 hn
          exact List.mem_map.2 ⟨c', mem_all_left hc', rfl⟩
        · split at hn
          · have : n = c.nu := by simpa using hn
            rw [this]
            exact List.mem_map.2 ⟨c, mem_all_last, rfl⟩
          · cases hn
    · obtain ⟨c2, hc2⟩ : ∃ c2 : Sg, c2 = { c with bs := c.bs.take (fullR c.bs (t - (putU c.ix).length)) } := ⟨_, rfl⟩
      have hnu : c2.nu = c.nu := by rw [hc2]
      have hix : c2.ix = c.ix := by rw [hc2]
      have hA2 : st2.A (4 * c.nu + 1) = true := by
        have hp0 := List.length_pos_iff.2 (putU_ne c.ix)
        refine (hp2 _).2 ⟨0, ?_⟩
        cases hF : st2.F (4 * c.nu + 1) 0 with
        | some sc => rfl
        | none =>
          have : textF st2 (4 * c.nu + 1) 65537 0 = [] := by
            rw [show 65537 = 65536 + 1 from rfl, textF]
            have : sectF st2 (4 * c.nu + 1) 0 = none := by unfold sectF; rw [show ((0 : Nat) : Int) = 0 from rfl, hF]; rfl
            rw [this]
          rw [this] at t3
          have hl := congrArg List.length t3
          rw [List.length_take] at hl
          simp only [List.length_nil] at hl
          omega
      refine ⟨C ++ [c2], none, ⟨t, t1, t2, by rw [if_neg ht, hc2]⟩, ⟨fun x hx => ?_, (fun n e => by cases e), ?_, fun n hn => ⟨fun ha => ?_, fun hm => ?_⟩, ?_⟩, fun n hn => ?_⟩
      · rcases List.mem_append.1 hx with hx | hx
        · exact hcl x hx
        · rw [List.mem_singleton] at hx
          subst hx
          refine ⟨by rw [hc2]; exact hok.take _, fun s nu => ?_⟩
          have hcs := hcut s nu
          rw [if_neg ht] at hcs
          rw [hnu, t3]
          refine hcs.trans ?_
          subst hc2
          cases folF s nu (c.ix : Int) <;> rfl
      · simp only [Option.toList_none, List.append_nil, List.map_append, List.map_cons, List.map_nil]
        rw [hnu]
        exact hasc'
      · obtain ⟨c', hc', rfl⟩ := h.only n hn (hsub _ ha)
        simp only [Option.toList_none, List.append_nil]
        rcases List.mem_append.1 hc' with hc' | hc'
        · exact List.mem_map.2 ⟨c', List.mem_append_left _ hc', rfl⟩
        · rw [List.mem_singleton] at hc'
          subst hc'
          exact List.mem_map.2 ⟨c2, by simp, hnu⟩
      · simp only [Option.toList_none, List.append_nil] at hm
        obtain ⟨c', hc', rfl⟩ := List.mem_map.1 hm
        rcases List.mem_append.1 hc' with hc' | hc'
        · exact hclA c' hc'
        · rw [List.mem_singleton] at hc'
          rw [hc', hnu]
          exact hA2
      · obtain ⟨p1, p2⟩ := Conn.front (C := C) (c := c) h.conn
        exact p1.snoc (by rw [hix]; exact p2)
      · simp only [Option.toList_none, List.append_nil] at hn
        obtain ⟨c', hc', rfl⟩ := List.mem_map.1 hn
        rcases List.mem_append.1 hc' with hc' | hc'
        · exact List.mem_map.2 ⟨c', mem_all_left hc', rfl⟩
        · rw [List.mem_singleton] at hc'
          rw [hc', hnu]
          exact List.mem_map.2 ⟨c, mem_all_last, rfl⟩
end Go.Proofs.YtcpkpljeimbdiaaGreat.W
namespace Go.Proofs.YtcpkpljeimbdiaaGreat.W
open Go.RowKit
open Aid K
set_option linter.unusedSimpArgs false
set_option linter.unusedVariables false
def TRow (w : World) (v : Value) (S : List ByteArray) : Prop := S.length ≤ 4398046511104 ∧ ((v = .slice none 0 0 ∧ S = []) ∨
  ∃ b off cap, v = .slice (some ⟨b, off, none⟩) S.length cap ∧ StrRow w b ∧ S.length ≤ cap ∧ ∀ j x, S[j]? = some x → w.cell? ⟨b, off + j, none⟩ = some (.string x))
theorem TRow.nil (w : World) : TRow w (.slice none 0 0) [] := ⟨by simp, .inl ⟨rfl, rfl⟩⟩
theorem TRow.form {w : World} {v : Value} {S : List ByteArray} (h : TRow w v S) : ∃ a c, v = .slice a S.length c ∧ S.length ≤ c := by
  obtain ⟨_, ⟨rfl, rfl⟩ | ⟨b, off, cap, rfl, _, h2, _⟩⟩ := h
  · exact ⟨none, 0, rfl, Nat.le_refl _⟩
  · exact ⟨_, _, rfl, h2⟩
theorem TRow.keep {P : Nat → Prop} {w w' : World} {v : Value} {S : List ByteArray} (h : TRow w v S) (hK : Keeps P w w') : TRow w' v S := by
  obtain ⟨h0, h1 | ⟨b, off, cap, h1, h2, h3, h4⟩⟩ := h
  · exact ⟨h0, .inl h1⟩
  · exact ⟨h0, .inr ⟨b, off, cap, h1, h2.of_eq (hK.rows b h2), h3, fun j x hx => (World.cell?_of_block (a := ⟨b, off + j, none⟩) (hK.rows b h2)).trans (h4 j x hx)⟩⟩
theorem TRow.below {w w' : World} {v : Value} {S : List ByteArray} (h : TRow w v S) (hb : Below w.heap.size w w') : TRow w' v S := h.keep (P := fun _ => False) (Keeps.of_below hb)
theorem TRow.srow {w : World} {v : Value} {S : List ByteArray} (h : TRow w v S) : SRow w v S := by
  obtain ⟨h0, ⟨rfl, rfl⟩ | ⟨b, off, cap, rfl, h2, h3, h4⟩⟩ := h
  · exact ⟨by omega, none, 0, rfl, fun j x hx => by cases hx⟩
  · exact ⟨by omega, _, _, rfl, fun j x hx => ⟨b, off, rfl, h2.lt, h4 j x hx⟩⟩
theorem TRow.of_own {w : World} {base : Nat} {v : Value} {S : List ByteArray} (h : OwnS w base v S) (hl : S.length ≤ 4398046511104) : TRow w v S := by
  refine ⟨hl, ?_⟩
  obtain ⟨h1, ⟨e, h0⟩ | ⟨g, cap, cur, e, hb, hg, h2, h3, h4, h5⟩⟩ := h
  · exact .inl ⟨e, List.eq_nil_of_length_eq_zero h0⟩
  · refine .inr ⟨g, 0, cap, e, ⟨cur, _, hg⟩, h2, fun j x hx => ?_⟩
    have hj := (List.getElem?_eq_some_iff.1 hx).1
    rw [Blk.cell hg, Nat.zero_add, ← Array.getElem?_toList]
    have h6 : (cur.toList.take (S.length * 1))[j]? = (S.map Value.string)[j]? := by rw [h5]
    rw [List.getElem?_take_of_lt (by omega), List.getElem?_map, hx] at h6
    exact h6
theorem TRow.take {w : World} {a : Option Addr} {n c k : Nat} {S : List ByteArray} (h : TRow w (.slice a n c) S) (hk : k ≤ n) : TRow w (.slice a k c) (S.take k) := by
  obtain ⟨h0, ⟨e, rfl⟩ | ⟨b, off, cap, e, h2, h3, h4⟩⟩ := h
  · cases e
    obtain rfl : k = 0 := by omega
    exact ⟨by simp, .inl ⟨rfl, rfl⟩⟩
  · cases e
    refine ⟨by rw [List.length_take]; omega, .inr ⟨b, off, c, by rw [List.length_take, Nat.min_eq_left hk], h2, by rw [List.length_take]; omega, fun j x hx => ?_⟩⟩
    rw [List.getElem?_take] at hx
    split at hx
    · exact h4 j x hx
    · cases hx
theorem TRow.drop {w : World} {b off n c k : Nat} {S : List ByteArray} (h : TRow w (.slice (some ⟨b, off, none⟩) n c) S) (hk : k ≤ n) : TRow w (.slice (some ⟨b, off + k, none⟩) (n - k) (c - k)) (S.drop k) := by
  obtain ⟨h0, ⟨e, rfl⟩ | ⟨b', off', cap, e, h2, h3, h4⟩⟩ := h
  · cases e
  · cases e
    refine ⟨by rw [List.length_drop]; omega, .inr ⟨b, off + k, c - k, by rw [List.length_drop], h2, by rw [List.length_drop]; omega, fun j x hx => ?_⟩⟩
    rw [List.getElem?_drop] at hx
    rw [Nat.add_assoc]
    exact h4 _ x hx
theorem TRow.none_left {w : World} {b off n c m : Nat} {S : List ByteArray} (h : TRow w (.slice (some ⟨b, off, none⟩) n c) S) : TRow w (.slice (some ⟨b, m, none⟩) 0 0) [] := by
  obtain ⟨h0, ⟨e, rfl⟩ | ⟨b', off', cap, e, h2, h3, h4⟩⟩ := h
  · cases e
  · cases e
    exact ⟨by simp, .inr ⟨b, m, 0, rfl, h2, Nat.le_refl _, fun j x hx => by cases hx⟩⟩
theorem conv_text {w : World} {v : Value} {l : List Int} (h : Ints w .u8 v l) (hb : By8 l) : (convert 49 9 v).run Tryz.prog w = .ok (.string (strI l)) w := by
  have back : ∀ (a : Addr) (cap : Nat), (∀ j, j < l.length → w.cell? (a.add j) = some (.int .u8 (l.getD j 0))) → (convert 49 9 (.slice (some a) l.length cap)).run Tryz.prog w = .ok (.string (strI l)) w := by
    intro a cap hc
    have := run_convert_bytes_back (P := Tryz.prog) w 49 9 5 a cap (l.map u8) Tryz.underlying49 Tryz.underlying5 Tryz.underlying9 (fun j hj => by
      rw [List.length_map] at hj
      rw [hc j hj]
      have e : ((l.map u8)[j].toNat : Int) = l.getD j 0 := by
        rw [List.getElem_map, List.getD_eq_getElem?_getD, List.getElem?_eq_getElem hj]
        have h1 := hb _ (List.getElem_mem hj)
        simp only [u8, Option.getD_some]
        rw [UInt8.toNat_ofNat']
        omega
      rw [e])
    rw [List.length_map] at this
    exact this
  obtain ⟨h0, ⟨rfl, rfl | ⟨a, cap, rfl⟩⟩ | ⟨b, off, cap, rfl, hlt, hc⟩⟩ := h
  · exact run_convert_bytes_nil (P := Tryz.prog) w 49 5 Tryz.underlying49 Tryz.underlying5 0 0 9 Tryz.underlying9
  · exact back a cap (fun j hj => absurd hj (Nat.not_lt_zero j))
  · exact back ⟨b, off, none⟩ cap (fun j hj => by rw [add_any]; exact hc j hj)
theorem wpList_append_texts {P : Program} {ops : Array Oper} {rest : List Oper} {o : Oper} {a : Act} {Q : Exit → Act → World → Prop} (w : World)
    (hw : Region.wanted o (yielded ops a.tmps) = true) (s x : Operand) (t : TypeId)
    (ho : o.op = .call { callee := .builtin .append, args := #[s, x], argTypes := #[t, t] })
    (base : Nat) (e : TypeId) (i : TypeInfo) (z : Value) (bytes : Nat) (ht : P.underlying t = some (.slice e)) (hi : P.info? e = some i) (hz : i.zero = some z)
    (hsize : i.size = 1) (hby : i.bytes = bytes) (hzs : z.cells.size = 1)
    (v : Value) (n : Nat) (xs : List Value) (hs : a.eval s = v) (hown : w.ownsRow base e 1 v n xs) (u : Value) (S : List ByteArray) (hx : a.eval x = u) (hl : TRow w u S)
    (h63 : n + S.length ≤ maxLen) (hbytes : (n + S.length) * bytes ≤ 140737488355328) (hbase : base ≤ w.heap.size)
    (h : ∀ v' w', w'.ownsRow base e 1 v' (n + S.length) (xs ++ S.map .string) → Below base w w' → wpList P ops Q rest (a.put o.dst v') w') : wpList P ops Q (o :: rest) a w := by
  refine wpList_want hw fun K hK => ?_
  have go : ∀ (ad : Addr) (c : Nat), u = .slice (some ad) S.length c → (∀ j y, (S.map Value.string)[j]? = some y → w.cell? (ad.add j) = some y) → o.wp P a w K Q := by
    intro ad c hu hnews
    refine wp_append_own w s x t ho base e i z 1 bytes ht hi hz hsize hby hzs (by decide) v n xs hs hown ad S.length c (S.map .string) (by rw [hx, hu]) (by simp) hnews ?_ h63 hbytes hbase ?_
    · intro y hy; obtain ⟨q, _, rfl⟩ := List.mem_map.1 hy; rfl
    · intro v' w' h2 h3 _
      exact hK _ _ (h v' w' h2 (below_of_grown h3 hbase (owns_base hown)))
  obtain ⟨_, ⟨rfl, rfl⟩ | ⟨b, off, cap, rfl, hst, hlc, hc⟩⟩ := hl
  · have hrun := run_append_owned_none (P := P) (w := w) base t o.type e i 1 ht hi v n xs hown
    unfold Oper.wp
    simp [execOp, ho, resolve, invoke, builtin, hs, hx, hrun, Result.andThen]
    exact hK _ _ (h v w (by simpa using hown) (Below.refl _ _))
  · refine go ⟨b, off, none⟩ cap rfl (fun j y hj => ?_)
    rw [List.getElem?_map] at hj
    cases hS : S[j]? with
    | none => rw [hS] at hj; cases hj
    | some q =>
      rw [hS] at hj
      cases hj
      rw [add_any]
      exact hc j q hS
end Go.Proofs.YtcpkpljeimbdiaaGreat.W
namespace Go.Proofs.YtcpkpljeimbdiaaGreat.W
open Go.RowKit
open Aid K
set_option linter.unusedSimpArgs false
set_option linter.unusedVariables false
def DoREnd (r : Lg × Int) (w : World) (e : Ending) (w' : World) : Prop := ∃ v', e = .returned (.tuple #[.agg #[.int .u64 r.1.1, v'], .int .i64 r.2]) ∧ TRow w' v' (r.1.2.map strI) ∧ Below w.heap.size w w'
structure DoB (w : World) (G : Nat) (c0 c1 c2 c3 c4 d0 d1 : Value) (W : World) : Prop where
  g : w.heap.size = G
  r : Blk W G 41 #[c0, c1]
  o : Blk W (G + 1) 55 #[c2, c3, c4]
  s : Blk W (G + 1 + 1) 41 #[d0, d1]
  b : Below w.heap.size w W
theorem DoB.start (w : World) (c0 c1 c2 c3 c4 d0 d1 : Value) : DoB w w.heap.size c0 c1 c2 c3 c4 d0 d1 (((w.alloc (.cells #[c0, c1] 41)).alloc (.cells #[c2, c3, c4] 55)).alloc (.cells #[d0, d1] 41)) := by
  have h1 := Blk.alloc_new w #[c0, c1] 41
  have b1 : Below w.heap.size w (w.alloc (.cells #[c0, c1] 41)) := (Below.refl _ _).alloc (Nat.le_refl _) _
  obtain ⟨w1, hw1⟩ : ∃ w1, w.alloc (.cells #[c0, c1] 41) = w1 := ⟨_, rfl⟩
  have s1 : w1.heap.size = w.heap.size + 1 := by rw [← hw1]; simp
  rw [hw1] at h1 b1 ⊢
  have h2 := Blk.alloc_new w1 #[c2, c3, c4] 55
  have b2 : Below w1.heap.size w1 (w1.alloc (.cells #[c2, c3, c4] 55)) := (Below.refl _ _).alloc (Nat.le_refl _) _
  obtain ⟨w2, hw2⟩ : ∃ w2, w1.alloc (.cells #[c2, c3, c4] 55) = w2 := ⟨_, rfl⟩
  have s2 : w2.heap.size = w1.heap.size + 1 := by rw [← hw2]; simp
  rw [hw2] at h2 b2 ⊢
  have h3 := Blk.alloc_new w2 #[d0, d1] 41
  have b3 : Below w2.heap.size w2 (w2.alloc (.cells #[d0, d1] 41)) := (Below.refl _ _).alloc (Nat.le_refl _) _
  rw [s1] at h2
  rw [s2, s1] at h3
  refine ⟨rfl, Blk.below (B := w2.heap.size) (Blk.below (B := w1.heap.size) h1 b2 (by omega)) b3 (by omega), Blk.below (B := w2.heap.size) h2 b3 (by omega), h3, (b1.trans (b2.mono (by omega))).trans (b3.mono (by omega))⟩
theorem DoB.below {w W W' : World} {G : Nat} {c0 c1 c2 c3 c4 d0 d1 : Value} (h : DoB w G c0 c1 c2 c3 c4 d0 d1 W) (hb : Below W.heap.size W W') : DoB w G c0 c1 c2 c3 c4 d0 d1 W' :=
  ⟨h.g, Blk.below h.r hb (Blk.lt h.r), Blk.below h.o hb (Blk.lt h.o), Blk.below h.s hb (Blk.lt h.s), h.b.trans (hb.mono h.b.size)⟩
theorem DoB.cells {w W : World} {G : Nat} {c0 c1 c2 c3 c4 d0 d1 : Value} (h : DoB w G c0 c1 c2 c3 c4 d0 d1 W) :
    W.cell? ⟨G, 0, none⟩ = some c0 ∧ W.cell? ⟨G, 1, none⟩ = some c1 ∧ W.cell? ⟨G + 1, 0, none⟩ = some c2 ∧ W.cell? ⟨G + 1, 1, none⟩ = some c3 ∧ W.cell? ⟨G + 1, 2, none⟩ = some c4 ∧ W.frozen? ⟨G + 1 + 1, 0, none⟩ = false ∧ W.frozen? ⟨G + 1 + 1, 1, none⟩ = false ∧ W.cell? ⟨G + 1 + 1, 0, none⟩ = some d0 ∧ W.cell? ⟨G + 1 + 1, 1, none⟩ = some d1 :=
  ⟨h.r.cell 0, h.r.cell 1, h.o.cell 0, h.o.cell 1, h.o.cell 2, h.s.free 0, h.s.free 1, h.s.cell 0, h.s.cell 1⟩
theorem DoB.set {w W : World} {G : Nat} {c0 c1 c2 c3 c4 d0 d1 : Value} (h : DoB w G c0 c1 c2 c3 c4 d0 d1 W) (e0 e1 : Value) : DoB w G c0 c1 c2 c3 c4 e0 e1 ((W.setCell ⟨G + 1 + 1, 0, none⟩ e0).setCell ⟨G + 1 + 1, 1, none⟩ e1) := by
  have hg := h.g
  refine ⟨h.g, (h.r.other (by simp; omega) _).other (by simp; omega) _, (h.o.other (by simp) _).other (by simp) _, (h.s.set 0 e0).set 1 e1, (h.b.setCell (by simp; omega) _).setCell (by simp; omega) _⟩
theorem step_append_ty {P : Program} {ops : Array Oper} {o : Oper} {a : Act} {w : World} {K : Act → World → Prop} {Q : Exit → Act → World → Prop} {E : Prop}
    (hg : o.guard = none) (s x : Operand) (t ty : TypeId) (hop : o.op = Op.call { callee := Callee.builtin Builtin.append, args := #[s, x], argTypes := #[t, t] }) (hty : o.type = ty)
    (v v' : Value) (w' : World) (ad : Addr) (m c : Nat) (hs : a.eval s = v) (hx : a.eval x = .slice (some ad) m c)
    (hrun : (Builtin.append_ #[t, t] ty #[v, .slice (some ad) m c]).run P w = .ok v' w')
    (hK : K (a.put o.dst v') w') :
    if Region.wanted o (yielded ops a.tmps) = true then Oper.wp P o a w K Q else E := by
  have hw : Region.wanted o (yielded ops a.tmps) = true := by simp [Region.wanted, hg]
  rw [if_pos hw]
  rw [← hty] at hrun
  unfold Oper.wp
  simp [execOp, hop, resolve, invoke, builtin, hs, hx, hrun, Result.andThen]
  exact hK
set_option maxRecDepth 100000 in
set_option maxHeartbeats 4000000 in
theorem do_append (f0 : Int) (v : Value) (S : List (List Int)) (n : Int) (bv : Value) (b : List Int) (w : World) (hT : TRow w v (S.map strI)) (hI : Ints w .u8 bv b) (hb : By8 b) (hf : 0 ≤ f0 ∧ f0 + S.length ≤ 4611686018427387904) (hS : S.length ≤ 4000000000000) :
    Calls Tryz.prog 19 #[.agg #[.int .u64 f0, v], .agg #[.int .i64 0, .int .i64 n, bv]] w (DoREnd (if 512 < b.length then ((f0, S), 50) else ((f0, S ++ [b]), 0)) w) := by
  obtain ⟨a, c, rfl, hlc⟩ := hT.form
  obtain ⟨ba, bc, rfl⟩ := hI.form
  obtain ⟨bl, hbl⟩ : ∃ bl, b.length = bl := ⟨_, rfl⟩
  obtain ⟨T, hTe⟩ : ∃ T, S.map strI = T := ⟨_, rfl⟩
  have hTl : T.length = S.length := by rw [← hTe, List.length_map]
  rw [hTe] at hT hlc ⊢
  obtain ⟨tl, htl⟩ : ∃ tl, T.length = tl := ⟨_, rfl⟩
  rw [htl] at hT hlc hTl ⊢
  rw [hbl] at hI ⊢
  have hwl : IntKind.u64.wrap (tl : Int) = (tl : Int) := by rw [IntKind.wrap_u64]; omega
  have hend : IntKind.u64.wrap (f0 + (tl : Int)) = f0 + (tl : Int) := by rw [IntKind.wrap_u64]; omega
  have HT := Lib.hid hT
  have HI := Lib.hid hI
  have HTE := Lib.hid (And.intro hTe (And.intro htl (And.intro hTl hbl)))
  have HB := Lib.hid hb
  clear hTe htl hTl hbl hT hI hb
  obtain ⟨iu, hiu, hzu, hsu, hbu⟩ := info_parts info_str
  go_enter Tryz.func19, Tryz.ntmps19
  by_cases hbig : 512 < bl
  · go_wp2_with fail
    have hst := DoB.start w (.int .u64 f0) (.slice a tl c) (.int .i64 0) (.int .i64 n) (.slice ba bl bc) (.int .u64 0) (.slice none 0 0)
    obtain ⟨W3, hW3⟩ : ∃ W3, ((w.alloc (.cells #[.int .u64 f0, .slice a tl c] 41)).alloc (.cells #[.int .i64 0, .int .i64 n, .slice ba bl bc] 55)).alloc (.cells #[.int .u64 0, .slice none 0 0] 41) = W3 := ⟨_, rfl⟩
    rw [hW3] at hst ⊢
    refine (index_any f0 _ 0 n _ W3).mono ?_
    rintro e W4 ⟨rfl, hb4⟩
    have h4 := hst.below hb4
    obtain ⟨e0, e1, e2, e3, e4, e5, e6, e7, e8⟩ := h4.cells
    clear hst hb4
    go_wp2_with fail
    have h5 := h4.set (.int .u64 f0) (.slice a tl c)
    obtain ⟨g0, g1, g2, g3, g4, g5, g6, g7, g8⟩ := h5.cells
    refine bodyPost_ret (v := .tuple #[.agg #[.int .u64 f0, .slice a tl c], .int .i64 50]) ?_ rfl ?_
    · simp [results, Tryz.results19, go_sem, g7, g8]
    · exact ⟨_, rfl, by rw [HTE.out.1]; exact (HT.out.below h5.b), h5.b⟩
  · go_wp2_with fail
    have hst := DoB.start w (.int .u64 f0) (.slice a tl c) (.int .i64 0) (.int .i64 n) (.slice ba bl bc) (.int .u64 0) (.slice none 0 0)
    obtain ⟨W3, hW3⟩ : ∃ W3, ((w.alloc (.cells #[.int .u64 f0, .slice a tl c] 41)).alloc (.cells #[.int .i64 0, .int .i64 n, .slice ba bl bc] 55)).alloc (.cells #[.int .u64 0, .slice none 0 0] 41) = W3 := ⟨_, rfl⟩
    rw [hW3] at hst ⊢
    refine (index_any f0 _ 0 n _ W3).mono ?_
    rintro e W4 ⟨rfl, hb4⟩
    have h4 := hst.below hb4
    obtain ⟨e0, e1, e2, e3, e4, e5, e6, e7, e8⟩ := h4.cells
    have hz0 : w.heap.size < W4.heap.size := Blk.lt h4.r
    have hz1 : w.heap.size + 1 < W4.heap.size := Blk.lt h4.o
    have hz2 : w.heap.size + 1 + 1 < W4.heap.size := Blk.lt h4.s
    clear hst hb4 hW3
    obtain ⟨W5, hW5⟩ : ∃ W5, W4.alloc (.cells #[] 9) = W5 := ⟨_, rfl⟩
    have hb5 : Below W4.heap.size W4 W5 := by rw [← hW5]; exact (Below.refl _ _).alloc (Nat.le_refl _) _
    have h5 := h4.below hb5
    have hT5 := HT.out.below h5.b
    have hown5 : W5.ownsRow W4.heap.size 9 1 (.slice (some ⟨W4.heap.size, 0, none⟩) 0 0) 0 [] := ⟨rfl, .inr ⟨W4.heap.size, 0, #[], rfl, Nat.le_refl _, by rw [← hW5]; exact Blk.alloc_new _ _ _, Nat.le_refl _, by decide, by simp, rfl⟩⟩
    have hs5 := hb5.size
    have HT5 := Lib.hid hT5
    have HO5 := Lib.hid hown5
    have HB5 := Lib.hid hb5
    have HH4 := Lib.hid h4
    have H5E := Lib.hid hW5
    clear hT5 hown5 h5 hb5 h4 hW5
    go_wp2_with (at_builtin; rw [H5E.out]; refine wpList_append_texts _ (by rfl) _ _ 38 rfl W4.heap.size 9 iu (.string ByteArray.empty) 16 Tryz.underlying38 hiu hzu hsu hbu rfl _ 0 [] rfl HO5.out _ T rfl HT5.out (by have := HTE.out.2.1; have := HTE.out.2.2.1; unfold maxLen; omega) (by have := HTE.out.2.1; have := HTE.out.2.2.1; omega) hs5 ?_; intro v6 W6 hown6 hb6)
    have hb46 : Below W4.heap.size W4 W6 := HB5.out.trans hb6
    have h6 := HH4.out.below hb46
    obtain ⟨k0, k1, k2, k3, k4, k5, k6, k7, k8⟩ := h6.cells
    have hs6 := hb46.size
    have hy0 : w.heap.size < W6.heap.size := by omega
    have hy1 : w.heap.size + 1 < W6.heap.size := by omega
    have hy2 : w.heap.size + 1 + 1 < W6.heap.size := by omega
    have hI6 := HI.out.below h6.b
    have hcv := conv_text (w := W6.drew) (v := .slice ba bl bc) (l := b) (by
      have hbd : Below W6.heap.size W6 W6.drew := (Below.refl _ _).drew
      exact hI6.below hbd) HB.out
    obtain ⟨x, hx⟩ : ∃ x, strI b = x := ⟨_, rfl⟩
    rw [hx] at hcv
    obtain ⟨WA, hWA⟩ : ∃ WA, (W6.alloc (.cells #[.string x] 9)).drew = WA := ⟨_, rfl⟩
    have hbA : Below W6.heap.size W6 WA := by rw [← hWA]; exact ((Below.refl _ _).alloc (Nat.le_refl _) _).drew
    have hbA4 : Below W4.heap.size W4 WA := hb46.trans (hbA.mono hs6)
    have hcA : WA.cell? ⟨W6.heap.size, 0, none⟩ = some (.string x) := by rw [← hWA]; exact cell_new W6 _ _ _ rfl
    have hownA : WA.ownsRow W4.heap.size 9 1 v6 (0 + T.length) ([] ++ T.map .string) := owns_below hown6 hbA
    obtain ⟨v7, W7, hrun, hown7, hgr, _⟩ := run_append_own (P := Tryz.prog) WA W4.heap.size 38 38 9 iu (.string ByteArray.empty) 1 16 Tryz.underlying38 hiu hzu hsu hbu rfl (by decide) v6 _ _ hownA ⟨W6.heap.size, 0, none⟩ 1 1 [.string x] rfl (fun j y hj => by
      match j, hj with
      | 0, hj => simp at hj; subst hj; simpa [Addr.add] using hcA
      | j + 1, hj => simp at hj) (fun y hy => by simp at hy; subst hy; rfl) (by have := HTE.out.2.1; have := HTE.out.2.2.1; unfold maxLen; omega) (by have := HTE.out.2.1; have := HTE.out.2.2.1; omega) (by have := hbA4.size; omega)
    have hb47 : Below W4.heap.size W4 W7 := hbA4.trans (below_of_grown hgr (by have := hbA4.size; omega) (owns_base hownA))
    have hxs : [] ++ T.map Value.string ++ [.string x] = (T ++ [x]).map .string := by simp
    have hT7 : TRow W7 v7 (T ++ [x]) := by
      refine TRow.of_own (base := W4.heap.size) ?_ (by rw [List.length_append]; have := HTE.out.2.1; have := HTE.out.2.2.1; simp only [List.length_cons, List.length_nil]; omega)
      unfold OwnS
      rw [← hxs, List.length_append]
      simpa using hown7
    obtain ⟨a7, c7, rfl, _⟩ := hT7.form
    obtain ⟨n7, hn7⟩ : ∃ n7, (T ++ [x]).length = n7 := ⟨_, rfl⟩
    rw [hn7] at hT7 hrun hown7
    have h7 := HH4.out.below hb47
    obtain ⟨l0, l1, l2, l3, l4, l5, l6, l7, l8⟩ := h7.cells
    have hA := HH4.out.below hbA4
    obtain ⟨m0, m1, m2, m3, m4, m5, m6, m7, m8⟩ := hA.cells
    have HRUN := Lib.hid hrun
    have H7 := Lib.hid (And.intro h7 (And.intro hT7 hx))
    have HWA := Lib.hid hWA
    clear hown7 hgr hrun h7 hT7 hA hownA hown6 hb6 hb46 hbA hbA4 hb47 h6 hI6 hn7 hxs hx hcA hWA e0 e1 e2 e3 e4 e5 e6 e7 e8
    refine' wp_cut0 _ _ ?reg ?imp
    case reg =>
      go_region_law (rw [HWA.out]; refine step_append_ty rfl (.tmp 34) (.tmp 38) 38 38 rfl rfl _ _ W7 ⟨W6.heap.size, 0, none⟩ 1 1 rfl rfl HRUN.out ?_)
      all_goals
        refine ⟨rfl, ?_, ?_⟩
        · exact Eq.refl _
        · exact Eq.refl _
    case imp =>
      go_wp2_with fail
      have h8 := H7.out.1.set (.int .u64 f0) (.slice a7 n7 c7)
      obtain ⟨g0, g1, g2, g3, g4, g5, g6, g7, g8⟩ := h8.cells
      refine bodyPost_ret (v := .tuple #[.agg #[.int .u64 f0, .slice a7 n7 c7], .int .i64 0]) ?_ rfl ?_
      · simp [results, Tryz.results19, go_sem, g7, g8]
      · refine ⟨_, rfl, ?_, h8.b⟩
        have hb1 := H7.out.1.b
        have hK : Keeps (fun k => k = w.heap.size + 1 + 1) W7 ((W7.setCell ⟨w.heap.size + 1 + 1, 0, none⟩ (.int .u64 f0)).setCell ⟨w.heap.size + 1 + 1, 1, none⟩ (.slice a7 n7 c7)) :=
          set_keeps (set_keeps (Keeps.refl _ _) rfl (StrRow.no_blk H7.out.1.s (by decide))) rfl (StrRow.no_blk (H7.out.1.s.set 0 _) (by decide))
        have := H7.out.2.1.keep hK
        rw [show (f0, S ++ [b]).2.map strI = T ++ [x] by simp [HTE.out.1, H7.out.2.2]]
        exact this
theorem do_same {w W : World} {f0 r : Int} {a : Option Addr} {tl c : Nat} {c2 c3 c4 d0 d1 : Value} {S : List (List Int)} {T : List ByteArray} (h : DoB w w.heap.size (.int .u64 f0) (.slice a tl c) c2 c3 c4 d0 d1 W) (hT : TRow w (.slice a tl c) T) (hS : S.map strI = T) (e0 : Int) (f : Option Addr) (n m : Nat) (T' : List ByteArray) (S' : List (List Int)) (hT' : TRow W (.slice f n m) T') (hS' : S'.map strI = T') :
    DoREnd ((e0, S'), r) w (.returned (.tuple #[.agg #[.int .u64 e0, .slice f n m], .int .i64 r])) ((W.setCell ⟨w.heap.size + 1 + 1, 0, none⟩ (.int .u64 e0)).setCell ⟨w.heap.size + 1 + 1, 1, none⟩ (.slice f n m)) := by
  have h8 := h.set (.int .u64 e0) (.slice f n m)
  have hK : Keeps (fun k => k = w.heap.size + 1 + 1) W ((W.setCell ⟨w.heap.size + 1 + 1, 0, none⟩ (.int .u64 e0)).setCell ⟨w.heap.size + 1 + 1, 1, none⟩ (.slice f n m)) :=
    set_keeps (set_keeps (Keeps.refl _ _) rfl (StrRow.no_blk h.s (by decide))) rfl (StrRow.no_blk (h.s.set 0 _) (by decide))
  refine ⟨_, rfl, ?_, h8.b⟩
  show TRow _ _ (S'.map strI)
  rw [hS']
  exact hT'.keep hK
theorem DoREnd.drew {r : Lg × Int} {w W : World} {e : Ending} (h : DoREnd r w e W) : DoREnd r w e W.drew := by
  obtain ⟨v', h1, h2, h3⟩ := h
  have hb : Below W.heap.size W W.drew := (Below.refl _ _).drew
  exact ⟨v', h1, h2.below hb, h3.drew⟩
set_option maxRecDepth 100000 in
set_option maxHeartbeats 4000000 in
theorem do_other (f0 : Int) (v : Value) (S : List (List Int)) (k n : Int) (bv : Value) (b : List Int) (w : World) (hT : TRow w v (S.map strI)) (hI : Ints w .u8 bv b) (hf : 0 ≤ f0 ∧ f0 + S.length ≤ 4611686018427387904) (k0 : (k == 0) = false) (k2 : (k == 2) = false) (k3 : (k == 3) = false) :
    Calls Tryz.prog 19 #[.agg #[.int .u64 f0, v], .agg #[.int .i64 k, .int .i64 n, bv]] w (DoREnd ((f0, S), 0) w) := by
  obtain ⟨a, c, rfl, hlc⟩ := hT.form
  obtain ⟨ba, bc, rfl⟩ := hI.form
  obtain ⟨bl, hbl⟩ : ∃ bl, b.length = bl := ⟨_, rfl⟩
  obtain ⟨T, hTe⟩ : ∃ T, S.map strI = T := ⟨_, rfl⟩
  have hTl : T.length = S.length := by rw [← hTe, List.length_map]
  rw [hTe] at hT hlc ⊢
  obtain ⟨tl, htl⟩ : ∃ tl, T.length = tl := ⟨_, rfl⟩
  rw [htl] at hT hlc hTl ⊢
  rw [hbl] at hI ⊢
  have hwl : IntKind.u64.wrap (tl : Int) = (tl : Int) := by rw [IntKind.wrap_u64]; omega
  have hend : IntKind.u64.wrap (f0 + (tl : Int)) = f0 + (tl : Int) := by rw [IntKind.wrap_u64]; omega
  have HT := Lib.hid hT
  have HTE := Lib.hid (And.intro hTe (And.intro htl (And.intro hTl hbl)))
  clear hTe htl hTl hbl hT hI
  go_enter Tryz.func19, Tryz.ntmps19
  go_wp2_with fail
  · skip
    have hst := DoB.start w (.int .u64 f0) (.slice a tl c) (.int .i64 k) (.int .i64 n) (.slice ba bl bc) (.int .u64 0) (.slice none 0 0)
    obtain ⟨W3, hW3⟩ : ∃ W3, ((w.alloc (.cells #[.int .u64 f0, .slice a tl c] 41)).alloc (.cells #[.int .i64 k, .int .i64 n, .slice ba bl bc] 55)).alloc (.cells #[.int .u64 0, .slice none 0 0] 41) = W3 := ⟨_, rfl⟩
    rw [hW3] at hst ⊢
    refine (index_any f0 _ k n _ W3).mono ?_
    rintro e W4 ⟨rfl, hb4⟩
    have h4 := hst.below hb4
    obtain ⟨e0, e1, e2, e3, e4, e5, e6, e7, e8⟩ := h4.cells
    have HH4 := Lib.hid h4
    clear hst hb4 h4 hW3
    go_wp2_with fail
    have h8 := HH4.out.set (.int .u64 f0) (.slice a tl c)
    obtain ⟨g0, g1, g2, g3, g4, g5, g6, g7, g8⟩ := h8.cells
    refine bodyPost_ret (v := .tuple #[.agg #[.int .u64 f0, .slice a tl c], .int .i64 0]) ?_ rfl ?_
    · simp [results, Tryz.results19, go_sem, g7, g8]
    · exact do_same HH4.out HT.out HTE.out.1 f0 a tl c T S (HT.out.below HH4.out.b) HTE.out.1
set_option maxRecDepth 100000 in
set_option maxHeartbeats 4000000 in
theorem do_trunc (f0 : Int) (v : Value) (S : List (List Int)) (n : Int) (bv : Value) (b : List Int) (w : World) (hT : TRow w v (S.map strI)) (hI : Ints w .u8 bv b) (hf : 0 ≤ f0 ∧ f0 + S.length ≤ 4611686018427387904) (hn : -1000000 < n ∧ n < 1000000) :
    Calls Tryz.prog 19 #[.agg #[.int .u64 f0, v], .agg #[.int .i64 2, .int .i64 n, bv]] w (DoREnd (if n < 0 ∨ (S.length : Int) < n then ((f0, S), 51) else ((f0, S.take n.toNat), 0)) w) := by
  obtain ⟨a, c, rfl, hlc⟩ := hT.form
  obtain ⟨ba, bc, rfl⟩ := hI.form
  obtain ⟨bl, hbl⟩ : ∃ bl, b.length = bl := ⟨_, rfl⟩
  obtain ⟨T, hTe⟩ : ∃ T, S.map strI = T := ⟨_, rfl⟩
  have hTl : T.length = S.length := by rw [← hTe, List.length_map]
  rw [hTe] at hT hlc ⊢
  obtain ⟨tl, htl⟩ : ∃ tl, T.length = tl := ⟨_, rfl⟩
  rw [htl] at hT hlc hTl ⊢
  rw [hbl] at hI ⊢
  have hwl : IntKind.u64.wrap (tl : Int) = (tl : Int) := by rw [IntKind.wrap_u64]; omega
  have hend : IntKind.u64.wrap (f0 + (tl : Int)) = f0 + (tl : Int) := by rw [IntKind.wrap_u64]; omega
  have HT := Lib.hid hT
  have HTE := Lib.hid (And.intro hTe (And.intro htl (And.intro hTl hbl)))
  have hwi : IntKind.i64.wrap (tl : Int) = (tl : Int) := IntWalk.i64_in _ (by omega)
  rw [show (S.length : Int) = (tl : Int) by omega]
  clear hTe htl hTl hbl hT hI
  go_enter Tryz.func19, Tryz.ntmps19
  by_cases hlo : n < 0
  · rw [if_pos (.inl hlo)]
    go_wp2_with fail
    have hst := DoB.start w (.int .u64 f0) (.slice a tl c) (.int .i64 2) (.int .i64 n) (.slice ba bl bc) (.int .u64 0) (.slice none 0 0)
    obtain ⟨W3, hW3⟩ : ∃ W3, ((w.alloc (.cells #[.int .u64 f0, .slice a tl c] 41)).alloc (.cells #[.int .i64 2, .int .i64 n, .slice ba bl bc] 55)).alloc (.cells #[.int .u64 0, .slice none 0 0] 41) = W3 := ⟨_, rfl⟩
    rw [hW3] at hst ⊢
    refine (index_any f0 _ 2 n _ W3).mono ?_
    rintro e W4 ⟨rfl, hb4⟩
    have h4 := hst.below hb4
    obtain ⟨e0, e1, e2, e3, e4, e5, e6, e7, e8⟩ := h4.cells
    have HH4 := Lib.hid h4
    clear hst hb4 h4 hW3
    go_wp2_with fail
    have h8 := HH4.out.set (.int .u64 f0) (.slice a tl c)
    obtain ⟨g0, g1, g2, g3, g4, g5, g6, g7, g8⟩ := h8.cells
    refine bodyPost_ret (v := .tuple #[.agg #[.int .u64 f0, .slice a tl c], .int .i64 51]) ?_ rfl ?_
    · simp [results, Tryz.results19, go_sem, g7, g8]
    · exact do_same HH4.out HT.out HTE.out.1 f0 a tl c T S (HT.out.below HH4.out.b) HTE.out.1
  by_cases hhi : (tl : Int) < n
  · rw [if_pos (.inr hhi)]
    have hlo' : decide (n < 0) = false := decide_eq_false hlo
    go_wp2_with fail
    have hst := DoB.start w (.int .u64 f0) (.slice a tl c) (.int .i64 2) (.int .i64 n) (.slice ba bl bc) (.int .u64 0) (.slice none 0 0)
    obtain ⟨W3, hW3⟩ : ∃ W3, ((w.alloc (.cells #[.int .u64 f0, .slice a tl c] 41)).alloc (.cells #[.int .i64 2, .int .i64 n, .slice ba bl bc] 55)).alloc (.cells #[.int .u64 0, .slice none 0 0] 41) = W3 := ⟨_, rfl⟩
    rw [hW3] at hst ⊢
    refine (index_any f0 _ 2 n _ W3).mono ?_
    rintro e W4 ⟨rfl, hb4⟩
    have h4 := hst.below hb4
    obtain ⟨e0, e1, e2, e3, e4, e5, e6, e7, e8⟩ := h4.cells
    have HH4 := Lib.hid h4
    clear hst hb4 h4 hW3
    go_wp2_with fail
    have h8 := HH4.out.set (.int .u64 f0) (.slice a tl c)
    obtain ⟨g0, g1, g2, g3, g4, g5, g6, g7, g8⟩ := h8.cells
    refine bodyPost_ret (v := .tuple #[.agg #[.int .u64 f0, .slice a tl c], .int .i64 51]) ?_ rfl ?_
    · simp [results, Tryz.results19, go_sem, g7, g8]
    · exact do_same HH4.out HT.out HTE.out.1 f0 a tl c T S (HT.out.below HH4.out.b) HTE.out.1
  · rw [if_neg (fun h => h.elim hlo hhi)]
    obtain ⟨m, rfl⟩ : ∃ m : Nat, n = m := ⟨n.toNat, by omega⟩
    have hm : m ≤ tl := by omega
    have hmc : m ≤ c := by omega
    rw [show ((m : Int)).toNat = m by omega]
    have hlo' : decide ((m : Int) < 0) = false := decide_eq_false (by omega)
    have hhi' : decide ((tl : Int) < (m : Int)) = false := decide_eq_false hhi
    go_wp2_with fail
    have hst := DoB.start w (.int .u64 f0) (.slice a tl c) (.int .i64 2) (.int .i64 (m : Int)) (.slice ba bl bc) (.int .u64 0) (.slice none 0 0)
    obtain ⟨W3, hW3⟩ : ∃ W3, ((w.alloc (.cells #[.int .u64 f0, .slice a tl c] 41)).alloc (.cells #[.int .i64 2, .int .i64 (m : Int), .slice ba bl bc] 55)).alloc (.cells #[.int .u64 0, .slice none 0 0] 41) = W3 := ⟨_, rfl⟩
    rw [hW3] at hst ⊢
    refine (index_any f0 _ 2 (m : Int) _ W3).mono ?_
    rintro e W4 ⟨rfl, hb4⟩
    have h4 := hst.below hb4
    obtain ⟨e0, e1, e2, e3, e4, e5, e6, e7, e8⟩ := h4.cells
    have HH4 := Lib.hid h4
    clear hst hb4 h4 hW3
    go_wp2_with fail
    refine' wp_cut0 _ _ ?reg ?imp
    case reg =>
      go_region_law (fail)
      all_goals
        refine ⟨rfl, ?_, ?_⟩
        · exact Eq.refl _
        · exact Eq.refl _
    case imp =>
      go_wp2_with fail
      have h8 := HH4.out.set (.int .u64 f0) (.slice a m c)
      obtain ⟨g0, g1, g2, g3, g4, g5, g6, g7, g8⟩ := h8.cells
      refine bodyPost_ret (v := .tuple #[.agg #[.int .u64 f0, .slice a m c], .int .i64 0]) ?_ rfl ?_
      · simp [results, Tryz.results19, go_sem, g7, g8]
      · exact (do_same HH4.out HT.out HTE.out.1 f0 a m c (T.take m) (S.take m) ((HT.out.below HH4.out.b).take hm) (by rw [← HTE.out.1, List.map_take])).drew
set_option maxRecDepth 100000 in
set_option maxHeartbeats 4000000 in
theorem do_comp (f0 : Int) (v : Value) (S : List (List Int)) (n x : Int) (bv : Value) (b : List Int) (w : World) (hT : TRow w v (S.map strI)) (hI : Ints w .u8 bv b) (hf : 0 ≤ f0 ∧ f0 + S.length ≤ 4611686018427387904) (hn : -1000000 < n ∧ n < 1000000) (hx : x = IntKind.u64.wrap (f0 + IntKind.u64.wrap n)) :
    Calls Tryz.prog 19 #[.agg #[.int .u64 f0, v], .agg #[.int .i64 3, .int .i64 n, bv]] w (DoREnd (if x ≤ f0 then ((f0, S), 0) else if f0 + (S.length : Int) < x then ((f0, S), 51) else ((x, S.drop n.toNat), 0)) w) := by
  obtain ⟨a, c, rfl, hlc⟩ := hT.form
  obtain ⟨ba, bc, rfl⟩ := hI.form
  obtain ⟨bl, hbl⟩ : ∃ bl, b.length = bl := ⟨_, rfl⟩
  obtain ⟨T, hTe⟩ : ∃ T, S.map strI = T := ⟨_, rfl⟩
  have hTl : T.length = S.length := by rw [← hTe, List.length_map]
  rw [hTe] at hT hlc ⊢
  obtain ⟨tl, htl⟩ : ∃ tl, T.length = tl := ⟨_, rfl⟩
  rw [htl] at hT hlc hTl ⊢
  rw [hbl] at hI ⊢
  have hwl : IntKind.u64.wrap (tl : Int) = (tl : Int) := by rw [IntKind.wrap_u64]; omega
  have hend : IntKind.u64.wrap (f0 + (tl : Int)) = f0 + (tl : Int) := by rw [IntKind.wrap_u64]; omega
  have HT := Lib.hid hT
  have HTE := Lib.hid (And.intro hTe (And.intro htl (And.intro hTl hbl)))
  have hx2 := hx
  rw [IntKind.wrap_u64, IntKind.wrap_u64] at hx2
  obtain ⟨wx, hwx⟩ : ∃ wx, IntKind.u64.wrap n = wx := ⟨_, rfl⟩
  rw [hwx] at hx
  have HX := Lib.hid hx
  have hxs : IntKind.u64.wrap (f0 + IntKind.u64.wrap n) = x := by rw [hwx]; exact hx.symm
  rw [show (S.length : Int) = (tl : Int) by omega]
  have HX2 := Lib.hid (And.intro hx2 hTl)
  clear hTe htl hTl hbl hT hI hx hx2 hwx
  go_enter Tryz.func19, Tryz.ntmps19
  by_cases hlo : x ≤ f0
  · rw [if_pos hlo]
    go_wp2_with fail
    have hst := DoB.start w (.int .u64 f0) (.slice a tl c) (.int .i64 3) (.int .i64 n) (.slice ba bl bc) (.int .u64 0) (.slice none 0 0)
    obtain ⟨W3, hW3⟩ : ∃ W3, ((w.alloc (.cells #[.int .u64 f0, .slice a tl c] 41)).alloc (.cells #[.int .i64 3, .int .i64 n, .slice ba bl bc] 55)).alloc (.cells #[.int .u64 0, .slice none 0 0] 41) = W3 := ⟨_, rfl⟩
    rw [hW3] at hst ⊢
    refine (index_any f0 _ 3 n _ W3).mono ?_
    rintro e W4 ⟨rfl, hb4⟩
    have h4 := hst.below hb4
    obtain ⟨e0, e1, e2, e3, e4, e5, e6, e7, e8⟩ := h4.cells
    have HH4 := Lib.hid h4
    clear hst hb4 h4 hW3
    rw [hxs]
    go_wp2_with fail
    have h8 := HH4.out.set (.int .u64 f0) (.slice a tl c)
    obtain ⟨g0, g1, g2, g3, g4, g5, g6, g7, g8⟩ := h8.cells
    refine bodyPost_ret (v := .tuple #[.agg #[.int .u64 f0, .slice a tl c], .int .i64 0]) ?_ rfl ?_
    · simp [results, Tryz.results19, go_sem, g7, g8]
    · exact do_same HH4.out HT.out HTE.out.1 f0 a tl c T S (HT.out.below HH4.out.b) HTE.out.1
  rw [if_neg hlo]
  by_cases hhi : f0 + (tl : Int) < x
  · rw [if_pos hhi]
    go_wp2_with fail
    have hst := DoB.start w (.int .u64 f0) (.slice a tl c) (.int .i64 3) (.int .i64 n) (.slice ba bl bc) (.int .u64 0) (.slice none 0 0)
    obtain ⟨W3, hW3⟩ : ∃ W3, ((w.alloc (.cells #[.int .u64 f0, .slice a tl c] 41)).alloc (.cells #[.int .i64 3, .int .i64 n, .slice ba bl bc] 55)).alloc (.cells #[.int .u64 0, .slice none 0 0] 41) = W3 := ⟨_, rfl⟩
    rw [hW3] at hst ⊢
    refine (index_any f0 _ 3 n _ W3).mono ?_
    rintro e W4 ⟨rfl, hb4⟩
    have h4 := hst.below hb4
    obtain ⟨e0, e1, e2, e3, e4, e5, e6, e7, e8⟩ := h4.cells
    have HH4 := Lib.hid h4
    clear hst hb4 h4 hW3
    rw [hxs]
    go_wp2_with fail
    have h8 := HH4.out.set (.int .u64 f0) (.slice a tl c)
    obtain ⟨g0, g1, g2, g3, g4, g5, g6, g7, g8⟩ := h8.cells
    refine bodyPost_ret (v := .tuple #[.agg #[.int .u64 f0, .slice a tl c], .int .i64 51]) ?_ rfl ?_
    · simp [results, Tryz.results19, go_sem, g7, g8]
    · exact do_same HH4.out HT.out HTE.out.1 f0 a tl c T S (HT.out.below HH4.out.b) HTE.out.1
  · rw [if_neg hhi]
    have hxn : x = f0 + n := by have := HX2.out; omega
    obtain ⟨m, rfl⟩ : ∃ m : Nat, n = m := ⟨n.toNat, by omega⟩
    have hm : m ≤ tl := by omega
    have hmc : m ≤ c := by omega
    have hm0 : 0 < m := by omega
    rw [show ((m : Int)).toNat = m by omega]
    obtain ⟨ab, ao, rfl⟩ : ∃ ab ao, a = some ⟨ab, ao, none⟩ := by
      obtain ⟨_, ⟨h1, h2⟩ | ⟨b', o', c', h1, _⟩⟩ := HT.out
      · cases h1
        omega
      · cases h1
        exact ⟨_, _, rfl⟩
    clear hxn
    by_cases hcap : c = m
    · subst hcap
      have htc : tl = c := by omega
      subst htc
      go_wp2_with fail
      have hst := DoB.start w (.int .u64 f0) (.slice (some ⟨ab, ao, none⟩) tl tl) (.int .i64 3) (.int .i64 ((tl : Nat) : Int)) (.slice ba bl bc) (.int .u64 0) (.slice none 0 0)
      obtain ⟨W3, hW3⟩ : ∃ W3, ((w.alloc (.cells #[.int .u64 f0, .slice (some ⟨ab, ao, none⟩) tl tl] 41)).alloc (.cells #[.int .i64 3, .int .i64 ((tl : Nat) : Int), .slice ba bl bc] 55)).alloc (.cells #[.int .u64 0, .slice none 0 0] 41) = W3 := ⟨_, rfl⟩
      rw [hW3] at hst ⊢
      refine (index_any f0 _ 3 (tl : Int) _ W3).mono ?_
      rintro e W4 ⟨rfl, hb4⟩
      have h4 := hst.below hb4
      obtain ⟨e0, e1, e2, e3, e4, e5, e6, e7, e8⟩ := h4.cells
      have HH4 := Lib.hid h4
      clear hst hb4 h4 hW3
      rw [hxs]
      go_wp2_with fail
      have h8 := HH4.out.set (.int .u64 x) (.slice (some ⟨ab, ao, none⟩) 0 0)
      obtain ⟨g0, g1, g2, g3, g4, g5, g6, g7, g8⟩ := h8.cells
      refine bodyPost_ret (v := .tuple #[.agg #[.int .u64 x, .slice (some ⟨ab, ao, none⟩) 0 0], .int .i64 0]) ?_ rfl ?_
      · simp [results, Tryz.results19, go_sem, g7, g8]
      · exact do_same HH4.out HT.out HTE.out.1 x (some ⟨ab, ao, none⟩) 0 0 [] (S.drop tl) (TRow.none_left (HT.out.below HH4.out.b)) (by rw [List.drop_eq_nil_of_le (by have := HX2.out.2; have := HTE.out.2.1; have := congrArg List.length HTE.out.1; rw [List.length_map] at this; omega)]; rfl)
    · go_wp2_with fail
      have hst := DoB.start w (.int .u64 f0) (.slice (some ⟨ab, ao, none⟩) tl c) (.int .i64 3) (.int .i64 (m : Int)) (.slice ba bl bc) (.int .u64 0) (.slice none 0 0)
      obtain ⟨W3, hW3⟩ : ∃ W3, ((w.alloc (.cells #[.int .u64 f0, .slice (some ⟨ab, ao, none⟩) tl c] 41)).alloc (.cells #[.int .i64 3, .int .i64 (m : Int), .slice ba bl bc] 55)).alloc (.cells #[.int .u64 0, .slice none 0 0] 41) = W3 := ⟨_, rfl⟩
      rw [hW3] at hst ⊢
      refine (index_any f0 _ 3 (m : Int) _ W3).mono ?_
      rintro e W4 ⟨rfl, hb4⟩
      have h4 := hst.below hb4
      obtain ⟨e0, e1, e2, e3, e4, e5, e6, e7, e8⟩ := h4.cells
      have HH4 := Lib.hid h4
      clear hst hb4 h4 hW3
      rw [hxs]
      go_wp2_with fail
      have h8 := HH4.out.set (.int .u64 x) (.slice (some ⟨ab, ao + m, none⟩) (tl - m) (c - m))
      obtain ⟨g0, g1, g2, g3, g4, g5, g6, g7, g8⟩ := h8.cells
      refine bodyPost_ret (v := .tuple #[.agg #[.int .u64 x, .slice (some ⟨ab, ao + m, none⟩) (tl - m) (c - m)], .int .i64 0]) ?_ rfl ?_
      · simp [results, Tryz.results19, go_sem, g7, g8]
      · exact do_same HH4.out HT.out HTE.out.1 x (some ⟨ab, ao + m, none⟩) (tl - m) (c - m) (T.drop m) (S.drop m) ((HT.out.below HH4.out.b).drop hm) (by rw [← HTE.out.1, List.map_drop])
theorem do_any (f0 : Int) (v : Value) (S : List (List Int)) (k n : Int) (bv : Value) (b : List Int) (w : World) (hT : TRow w v (S.map strI)) (hI : Ints w .u8 bv b) (hb : By8 b) (hf : 0 ≤ f0 ∧ f0 + S.length ≤ 4611686018427387904) (hS : S.length ≤ 4000000000000) (hn : -1000000 < n ∧ n < 1000000) :
    Calls Tryz.prog 19 #[.agg #[.int .u64 f0, v], .agg #[.int .i64 k, .int .i64 n, bv]] w (DoREnd (doF (f0, S) k n b) w) := by
  have hend : IntKind.u64.wrap (f0 + (S.length : Int)) = f0 + (S.length : Int) := by rw [IntKind.wrap_u64]; omega
  unfold doF
  simp only
  by_cases h0 : k = 0
  · subst h0
    rw [if_pos rfl]
    exact do_append f0 v S n bv b w hT hI hb hf hS
  rw [if_neg h0]
  by_cases h2 : k = 2
  · subst h2
    rw [if_pos rfl]
    exact do_trunc f0 v S n bv b w hT hI hf hn
  rw [if_neg h2]
  by_cases h3 : k = 3
  · subst h3
    rw [if_pos rfl, hend]
    exact do_comp f0 v S n _ bv b w hT hI hf hn rfl
  rw [if_neg h3]
  exact do_other f0 v S k n bv b w hT hI hf (by simpa using h0) (by simpa using h2) (by simpa using h3)
end Go.Proofs.YtcpkpljeimbdiaaGreat.W
namespace Go.Proofs.YtcpkpljeimbdiaaGreat.W
open Go.RowKit
open Aid K
set_option linter.unusedSimpArgs false
set_option linter.unusedVariables false
def NotU8 (u : Value) : Prop := ∀ x, u ≠ .int .u8 x
def GRow (w : World) (v : Value) (n : Nat) (xs : List Value) : Prop := xs.length = n * 2 ∧ ((v = .slice none 0 0 ∧ n = 0) ∨
  ∃ b cap cur, v = .slice (some ⟨b, 0, none⟩) n cap ∧ Blk w b 41 cur ∧ n ≤ cap ∧ cap ≤ maxLen ∧ cur.size = cap * 2 ∧ cur.toList.take (n * 2) = xs ∧ ∀ u ∈ cur.toList, NotU8 u)
theorem GRow.nil (w : World) : GRow w (.slice none 0 0) 0 [] := ⟨rfl, .inl ⟨rfl, rfl⟩⟩
theorem GRow.keep {P : Nat → Prop} {w w' : World} {v : Value} {n : Nat} {xs : List Value} (h : GRow w v n xs) (hK : Keeps P w w') (hP : ∀ k, v.ownBlock = some k → ¬ P k) : GRow w' v n xs := by
  obtain ⟨h0, h1 | ⟨b, cap, cur, rfl, hb, r⟩⟩ := h
  · exact ⟨h0, .inl h1⟩
  · exact ⟨h0, .inr ⟨b, cap, cur, rfl, blk_keep hb hK (hP b rfl), r⟩⟩
theorem GRow.heap {w w' : World} {v : Value} {n : Nat} {xs : List Value} (h : GRow w v n xs) (hK : ∀ k, v.ownBlock = some k → w'.heap[k]? = w.heap[k]?) : GRow w' v n xs := by
  obtain ⟨h0, h1 | ⟨b, cap, cur, rfl, hb, r⟩⟩ := h
  · exact ⟨h0, .inl h1⟩
  · exact ⟨h0, .inr ⟨b, cap, cur, rfl, by unfold Blk at hb ⊢; rw [hK b rfl]; exact hb, r⟩⟩
theorem GRow.form {w : World} {v : Value} {n : Nat} {xs : List Value} (h : GRow w v n xs) : ∃ a c, v = .slice a n c := by
  obtain ⟨h0, ⟨rfl, rfl⟩ | ⟨b, cap, cur, rfl, _⟩⟩ := h
  · exact ⟨_, _, rfl⟩
  · exact ⟨_, _, rfl⟩
theorem GRow.lt {w : World} {v : Value} {n : Nat} {xs : List Value} (h : GRow w v n xs) : ∀ k, v.ownBlock = some k → k < w.heap.size := fun k hk => by
  obtain ⟨h0, ⟨rfl, rfl⟩ | ⟨b, cap, cur, rfl, hb, _⟩⟩ := h
  · cases hk
  · cases hk; exact Blk.lt hb
theorem GRow.cell {w : World} {b n c : Nat} {xs : List Value} (h : GRow w (.slice (some ⟨b, 0, none⟩) n c) n xs) {j : Nat} {u : Value} (hj : xs[j]? = some u) : w.cell? ⟨b, j, none⟩ = some u := by
  obtain ⟨h0, ⟨h1, rfl⟩ | ⟨b', cap, cur, h1, hb, _, _, _, h5, _⟩⟩ := h
  · cases h1
  · cases h1
    rw [hb.cell, ← Array.getElem?_toList]
    rw [← h5, List.getElem?_take] at hj
    split at hj
    · exact hj
    · cases hj
def NoU8 (w : World) (k : Nat) : Prop := ∀ o x, w.cell? ⟨k, o, none⟩ ≠ some (.int .u8 x)
theorem NoU8.of_blk {w : World} {b : Nat} {T : TypeId} {cur : Array Value} (hb : Blk w b T cur) (h : ∀ u ∈ cur.toList, NotU8 u) : NoU8 w b := fun o x e => by
  rw [hb.cell, ← Array.getElem?_toList] at e
  exact h _ (List.mem_of_getElem? e) x rfl
theorem GRow.noU8 {w : World} {v : Value} {n : Nat} {xs : List Value} (h : GRow w v n xs) : ∀ k, v.ownBlock = some k → NoU8 w k := fun k hk => by
  obtain ⟨h0, ⟨rfl, rfl⟩ | ⟨b, cap, cur, rfl, hb, _, _, _, _, h6⟩⟩ := h
  · cases hk
  · cases hk; exact NoU8.of_blk hb h6
theorem wal_info : (Tryz.prog.info? 41).map (fun i => (i.zero, i.size, i.bytes)) = some (some (.agg #[.int .u64 0, .slice none 0 0]), 2, 32) := by kernel_rfl
theorem zc_mem {z : Array Value} {n : Nat} {u : Value} (h : u ∈ (Builtin.zeroCells z n).toList) (hz : 0 < z.size) : u ∈ z.toList := by
  simp [Builtin.zeroCells] at h
  obtain ⟨i, _, rfl⟩ := h
  rw [getElem!_pos z (i % z.size) (Nat.mod_lt _ hz)]
  exact Array.mem_toList_iff.2 (Array.getElem_mem _)
theorem pushW (w : World) (v : Value) (n : Nat) (xs : List Value) (hG : GRow w v n xs) (g : Nat) (y1 y2 : Value) (hc1 : w.cell? ⟨g, 0, none⟩ = some y1) (hc2 : w.cell? ⟨g, 1, none⟩ = some y2) (h1 : y1.oneCell' = true) (h2 : y2.oneCell' = true) (n1 : NotU8 y1) (n2 : NotU8 y2) (hl : n ≤ 2000000000000) :
    ∃ v' w', (∀ ty, (Builtin.append_ #[28, 28] ty #[v, .slice (some ⟨g, 0, none⟩) 1 1]).run Tryz.prog w = .ok v' w') ∧ GRow w' v' (n + 1) (xs ++ [y1, y2]) ∧ Keeps (fun k => v.ownBlock = some k) w w' ∧ (∀ k, v'.ownBlock = some k → v.ownBlock = some k ∨ w.heap.size ≤ k) := by
  obtain ⟨iu, hiu, hzu, hsu, hbu⟩ := info_parts wal_info
  have hzc : (Value.agg #[.int .u64 0, .slice none 0 0]).cells = #[.int .u64 0, .slice none 0 0] := rfl
  have hznot : ∀ m : Nat, ∀ u ∈ (Builtin.zeroCells (Value.agg #[.int .u64 0, .slice none 0 0]).cells m).toList, NotU8 u := fun m u hu => by
    have := zc_mem hu (by rw [hzc]; decide)
    rw [hzc] at this
    rcases List.mem_cons.1 this with rfl | this
    · intro x e; cases e
    · rw [List.mem_singleton] at this
      subst this
      intro x e; cases e
  have hnews : ∀ (j : Nat) u, ([y1, y2] : List Value)[j]? = some u → w.cell? ((⟨g, 0, none⟩ : Addr).add j) = some u := fun j u hj => by
    match j, hj with
    | 0, hj => simp at hj; subst hj; simpa [Addr.add] using hc1
    | 1, hj => simp at hj; subst hj; simpa [Addr.add] using hc2
    | j + 2, hj => simp at hj
  have hkeep : ∀ (o : Obj), Keeps (fun k => v.ownBlock = some k) w (w.drew.alloc o) := fun o => Keeps.of_below ((Below.refl w.heap.size w).drew.alloc (by simp) o)
  have hnewn : ∀ u ∈ [y1, y2], NotU8 u := fun u hu => by
    rcases List.mem_cons.1 hu with rfl | hu
    · exact n1
    · rw [List.mem_singleton] at hu; subst hu; exact n2
  obtain ⟨hx, ⟨rfl, rfl⟩ | ⟨b, cap, cur, rfl, hb, h3, h4, h5, h6, h7⟩⟩ := hG
  · have hge := grownCap_ge w 1 0 41
    have hcm : grownCap w 1 0 41 ≤ maxLen := grownCap_le_maxLen w 1 0 41 (by unfold maxLen; omega)
    obtain rfl : xs = [] := List.eq_nil_of_length_eq_zero (by omega)
    refine ⟨_, _, fun ty => run_append_nil (P := Tryz.prog) w 28 ty 41 iu _ Tryz.underlying28 hiu hzu ⟨g, 0, none⟩ 1 1 [y1, y2] (by rw [hsu]; rfl) hnews (by decide) (by decide) (by rw [hbu]; decide), ⟨rfl, .inr ⟨w.heap.size, _, _, rfl, heap_alloc_new w.drew _, hge, hcm, ?_, ?_, fun u hu => ?_⟩⟩, hkeep _, fun k hk => ?_⟩
    · rw [Array.size_append, size_zeroCells, hzc]
      simp only [List.size_toArray, List.length_cons, List.length_nil]
      show 2 + (grownCap w 1 0 41 - 1) * 2 = _
      omega
    · simp
    · rw [Array.toList_append] at hu
      rcases List.mem_append.1 hu with hu | hu
      · exact hnewn u (by simpa using hu)
      · exact hznot _ u hu
    · cases hk; exact .inr (Nat.le_refl _)
  · by_cases hroom : n + 1 ≤ cap
    · have hr := fun ty => run_append_room (P := Tryz.prog) w 28 ty 41 iu Tryz.underlying28 hiu b n cap cur hb ⟨g, 0, none⟩ 1 1 [y1, y2] (by rw [hsu]; rfl) hnews (fun u hu => by
        rcases List.mem_cons.1 hu with rfl | hu
        · exact h1
        · rw [List.mem_singleton] at hu; subst hu; exact h2) hroom (by rw [hsu]; simp only [List.length_cons, List.length_nil]; omega)
      rw [hsu] at hr
      refine ⟨_, _, hr, ⟨by rw [List.length_append, hx]; simp only [List.length_cons, List.length_nil]; omega, .inr ⟨b, cap, _, rfl, setRow_heap w b cur _ _ _ hb, hroom, h4, ?_, ?_, fun u hu => ?_⟩⟩, ⟨rfl, rfl, rfl, by simp [World.setRow], fun k _ hk => setRow_other w b k _ (fun e => hk (by rw [e]; rfl)), fun k hk => setRow_other w b k _ (fun e => StrRow.no_blk hb (by decide) (e ▸ hk))⟩, fun k hk => .inl hk⟩
      · simp only [List.size_toArray, List.length_append, List.length_take, List.length_drop, Array.length_toList, List.length_cons, List.length_nil]
        omega
      · simp only [List.length_cons, List.length_nil]
        rw [h6]
        rw [List.take_append_of_le_length (by rw [List.length_append, hx]; simp only [List.length_cons, List.length_nil]; omega)]
        rw [List.take_of_length_le (by rw [List.length_append, hx]; simp only [List.length_cons, List.length_nil]; omega)]
      · have hu' : u ∈ cur.toList.take (n * 2) ++ [y1, y2] ++ cur.toList.drop (n * 2 + [y1, y2].length) := by simpa using hu
        rcases List.mem_append.1 hu' with hu | hu
        · rcases List.mem_append.1 hu with hu | hu
          · exact h7 u (List.mem_of_mem_take hu)
          · exact hnewn u hu
        · exact h7 u (List.mem_of_mem_drop hu)
    · have hold : ∀ (j : Nat) u, xs[j]? = some u → w.cell? ((⟨b, 0, none⟩ : Addr).add j) = some u := fun j u hj => by
        rw [add_any, hb.cell, Nat.zero_add, ← Array.getElem?_toList]
        rw [← h6, List.getElem?_take] at hj
        split at hj
        · exact hj
        · cases hj
      have hge := grownCap_ge w (n + 1) cap 41
      have hcm : grownCap w (n + 1) cap 41 ≤ maxLen := grownCap_le_maxLen w (n + 1) cap 41 (by unfold maxLen; omega)
      refine ⟨_, _, fun ty => run_append_grow (P := Tryz.prog) w 28 ty 41 iu _ Tryz.underlying28 hiu hzu ⟨b, 0, none⟩ n cap xs (by rw [hsu]; exact hx) hold ⟨g, 0, none⟩ 1 1 [y1, y2] (by rw [hsu]; rfl) hnews (by omega) (by omega) (growslice_fits (by omega) (by rw [hbu]; omega)), ⟨by rw [List.length_append, hx]; simp only [List.length_cons, List.length_nil]; omega, .inr ⟨w.heap.size, _, _, rfl, heap_alloc_new w.drew _, hge, hcm, ?_, ?_, fun u hu => ?_⟩⟩, hkeep _, fun k hk => ?_⟩
      · rw [Array.size_append, size_zeroCells, hzc]
        simp only [Array.size_append, List.size_toArray, List.length_cons, List.length_nil, hx]
        show n * 2 + 2 + (grownCap w (n + 1) cap 41 - (n + 1)) * 2 = _
        omega
      · rw [Array.toList_append, Array.toList_append, List.take_append_of_le_length (by simp [hx]; omega)]
        rw [List.take_of_length_le (by simp [hx]; omega)]
      · rw [Array.toList_append, Array.toList_append] at hu
        rcases List.mem_append.1 hu with hu | hu
        · rcases List.mem_append.1 hu with hu | hu
          · have hu : u ∈ xs := by simpa using hu
            rw [← h6] at hu
            exact h7 u (List.mem_of_mem_take hu)
          · exact hnewn u (by simpa using hu)
        · exact hznot _ u hu
      · cases hk; exact .inr (Nat.le_refl _)
def rowC : List (Lg × Value) → List Value
  | [] => []
  | (r, u) :: t => .int .u64 r.1 :: u :: rowC t
theorem rowC_append : ∀ (x y : List (Lg × Value)), rowC (x ++ y) = rowC x ++ rowC y
  | [], y => rfl
  | (r, u) :: t, y => by rw [List.cons_append, rowC, rowC, rowC_append t y]; rfl
theorem rowC_at : ∀ (x : List (Lg × Value)) (j : Nat) (r : Lg) (u : Value), x[j]? = some (r, u) → (rowC x)[j * 2]? = some (.int .u64 r.1) ∧ (rowC x)[j * 2 + 1]? = some u
  | [], j, r, u, h => by simp at h
  | (r', u') :: t, 0, r, u, h => by simp at h; obtain ⟨rfl, rfl⟩ := h; exact ⟨rfl, rfl⟩
  | (r', u') :: t, j + 1, r, u, h => by
    have := rowC_at t j r u (by simpa using h)
    rw [rowC, show (j + 1) * 2 = j * 2 + 2 by omega]
    exact this
def WRow (w : World) (v : Value) (R : List Lg) : Prop := ∃ ps : List (Lg × Value), ps.map Prod.fst = R ∧ (∀ p ∈ ps, TRow w p.2 (p.1.2.map strI)) ∧ GRow w v ps.length (rowC ps)
theorem WRow.nil (w : World) : WRow w (.slice none 0 0) [] := ⟨[], rfl, (fun p hp => by cases hp), GRow.nil w⟩
theorem WRow.keep {P : Nat → Prop} {w w' : World} {v : Value} {R : List Lg} (h : WRow w v R) (hK : Keeps P w w') (hP : ∀ k, v.ownBlock = some k → ¬ P k) : WRow w' v R := by
  obtain ⟨ps, h1, h2, h3⟩ := h
  exact ⟨ps, h1, fun p hp => (h2 p hp).keep hK, h3.keep hK hP⟩
theorem WRow.push (w : World) (v : Value) (R : List Lg) (h : WRow w v R) (g : Nat) (r : Lg) (u : Value) (hc1 : w.cell? ⟨g, 0, none⟩ = some (.int .u64 r.1)) (hc2 : w.cell? ⟨g, 1, none⟩ = some u) (hT : TRow w u (r.2.map strI)) (hl : R.length ≤ 2000000000000) :
    ∃ v' w', (∀ ty, (Builtin.append_ #[28, 28] ty #[v, .slice (some ⟨g, 0, none⟩) 1 1]).run Tryz.prog w = .ok v' w') ∧ WRow w' v' (R ++ [r]) ∧ Keeps (fun k => v.ownBlock = some k) w w' ∧ (∀ k, v'.ownBlock = some k → v.ownBlock = some k ∨ w.heap.size ≤ k) := by
  obtain ⟨ps, h1, h2, h3⟩ := h
  obtain ⟨ua, uc, hu, _⟩ := hT.form
  have hpl : ps.length = R.length := by rw [← h1, List.length_map]
  obtain ⟨v', w', q1, q2, q3, q4⟩ := pushW w v ps.length (rowC ps) h3 g (.int .u64 r.1) u hc1 hc2 rfl (by rw [hu]; rfl) (fun x e => by cases e) (fun x e => by rw [hu] at e; cases e) (by omega)
  refine ⟨v', w', q1, ⟨ps ++ [(r, u)], by simp [h1], fun p hp => ?_, ?_⟩, q3, q4⟩
  · rcases List.mem_append.1 hp with hp | hp
    · exact (h2 p hp).keep q3
    · rw [List.mem_singleton] at hp
      subst hp
      exact hT.keep q3
  · rw [rowC_append, List.length_append]
    exact q2
end Go.Proofs.YtcpkpljeimbdiaaGreat.W
namespace Go.Proofs.YtcpkpljeimbdiaaGreat.W
open Go.RowKit
open Aid K
set_option linter.unusedSimpArgs false
set_option linter.unusedVariables false
theorem ints_law {P : Nat → Prop} {w w' : World} {v : Value} {l : List Int} (h : Ints w .u8 v l) (hK : Keeps P w w') (hN : ∀ k, P k → NoU8 w k) : Ints w' .u8 v l := by
  obtain ⟨h0, h1 | ⟨b, off, cap, h1, h2, h3⟩⟩ := h
  · exact ⟨h0, .inl h1⟩
  · by_cases hl : l.length = 0
    · have := List.eq_nil_of_length_eq_zero hl
      subst this
      exact ⟨h0, .inl ⟨rfl, .inr ⟨_, _, h1⟩⟩⟩
    · refine ⟨h0, .inr ⟨b, off, cap, h1, by have := hK.size; omega, fun j hj => ?_⟩⟩
      refine (hK.cell (p := ⟨b, off + j, none⟩) h2 (fun hp => ?_)).trans (h3 j hj)
      exact hN b hp _ _ (h3 0 (by omega))
theorem Recs.law {Q P : Nat → Prop} {w w' : World} {lv : Value} {L : List (List Int)} {vs : List Value} (h : Recs Q w lv L vs) (hK : Keeps P w w') (hl : ∀ k, lv.ownBlock = some k → ¬ P k) (hN : ∀ k, P k → NoU8 w k) : Recs Q w' lv L vs := by
  refine ⟨h.len, h.row.keep hK hl, fun j v x hv hx => ?_⟩
  obtain ⟨h1, h2⟩ := h.ints j v x hv hx
  exact ⟨ints_law h1 hK hN, fun k hk => ⟨(h2 k hk).1, by have := (h2 k hk).2; have := hK.size; omega⟩⟩
theorem WalIn.law {O Q P : Nat → Prop} {w w' : World} {g p : Nat} {s : LSt} {ov lv oldv : Value} (h : WalIn O Q w g p s ov lv oldv) (hK : Keeps P w w') (hP : ∀ k, P k → ¬ (O k ∨ Q k)) (hN : ∀ k, P k → NoU8 w k) : WalIn O Q w' g p s ov lv oldv where
  blk := blk_keep h.blk hK (fun hp => hP g hp (.inr h.qg))
  qg := h.qg
  opn := h.opn.keep hK (fun k hk hp => hP k hp (.inr hk))
  recs := by
    obtain ⟨vs, hr⟩ := h.recs
    exact ⟨vs, hr.law hK (fun k hk hp => hP k hp (.inr (h.ql k hk))) hN⟩
  ql := h.ql
  segs := h.segs.keep hK (fun k hk hp => hP k hp (.inr (h.qs k hk)))
  qs := h.qs
  lt := fun k hk => by have := h.lt k hk; have := hK.size; omega
  apart := h.apart
structure CL (w0 W : World) (M : Nat → Prop) (g p : Nat) (s : LSt) (st : DSt) (O Q : Nat → Prop) : Prop where
  wal : WalIs O Q W g p s
  disk : DiskIs O W p st
  olt : ∀ k, O k → k < W.heap.size
  ge : ∀ k, O k ∨ Q k → w0.heap.size ≤ k
  apart : ∀ k, M k → ¬ (O k ∨ Q k)
  mlt : ∀ k, M k → w0.heap.size ≤ k ∧ k < W.heap.size
  below : Below w0.heap.size w0 W
def CLs (w0 W : World) (M : Nat → Prop) (g p : Nat) (s : LSt) (st : DSt) : Prop := ∃ O Q, CL w0 W M g p s st O Q
theorem CLs.bel {w0 W : World} {M : Nat → Prop} {g p : Nat} {s : LSt} {st : DSt} (h : CLs w0 W M g p s st) : Below w0.heap.size w0 W := by
  obtain ⟨O, Q, h⟩ := h
  exact h.below
theorem CLs.dl {w0 W : World} {M : Nat → Prop} {g p : Nat} {s : LSt} {st : DSt} (h : CLs w0 W M g p s st) : DL w0 W p st := by
  obtain ⟨O, Q, h⟩ := h
  exact ⟨O, h.disk, fun k hk => ⟨h.ge k (.inl hk), h.olt k hk⟩, h.below⟩
theorem CLs.anti {w0 W : World} {M M' : Nat → Prop} {g p : Nat} {s : LSt} {st : DSt} (h : CLs w0 W M g p s st) (hM : ∀ k, M' k → M k) : CLs w0 W M' g p s st := by
  obtain ⟨O, Q, h⟩ := h
  exact ⟨O, Q, h.wal, h.disk, h.olt, h.ge, fun k hk => h.apart k (hM k hk), fun k hk => h.mlt k (hM k hk), h.below⟩
theorem CLs.grow {w0 W W' : World} {M P : Nat → Prop} {g p : Nat} {s : LSt} {st : DSt} (h : CLs w0 W M g p s st) (hK : Keeps P W W') (hP : ∀ k, P k → M k) (hN : ∀ k, P k → NoU8 W k) : CLs w0 W' (fun k => M k ∨ (W.heap.size ≤ k ∧ k < W'.heap.size)) g p s st := by
  obtain ⟨O, Q, h⟩ := h
  obtain ⟨ov, lv, oldv, hw⟩ := h.wal
  have hs := hK.size
  have hs0 := h.below.size
  refine ⟨O, Q, ⟨ov, lv, oldv, hw.law hK (fun k hk => h.apart k (hP k hk)) hN⟩, h.disk.keep hK (fun k hk hp => h.apart k (hP k hp) (.inl hk)), fun k hk => by have := h.olt k hk; omega, h.ge, fun k hk hq => ?_, fun k hk => ?_, hK.below h.below h.below.size (fun k hk => (h.mlt k (hP k hk)).1)⟩
  · rcases hk with hk | hk
    · exact h.apart k hk hq
    · rcases hq with hq | hq
      · have := h.olt k hq; omega
      · have := hw.lt k hq; omega
  · rcases hk with hk | hk
    · have := h.mlt k hk; omega
    · omega
theorem CLs.below {w0 W W' : World} {M : Nat → Prop} {g p : Nat} {s : LSt} {st : DSt} (h : CLs w0 W M g p s st) (hb : Below W.heap.size W W') : CLs w0 W' (fun k => M k ∨ (W.heap.size ≤ k ∧ k < W'.heap.size)) g p s st :=
  h.grow (P := fun _ => False) (Keeps.of_below hb) (fun _ h => h.elim) (fun _ h => h.elim)
theorem ALs.cl {w0 W : World} {N g p : Nat} {s : LSt} {st : DSt} (h : ALs w0 W N g p s st) : CLs w0 W (fun _ => False) g p s st := by
  obtain ⟨O, Q, h⟩ := h
  exact ⟨O, Q, h.wal, h.disk, fun k hk => by have := h.lt k (.inl hk); have := h.nle; omega, fun k hk => (h.lt k hk).1, fun k hk => hk.elim, fun k hk => hk.elim, h.below⟩
structure Stp (w0 W W' : World) (M : Nat → Prop) (g p : Nat) (s : LSt) (st : DSt) : Prop where
  cl : CLs w0 W' M g p s st
  keep : ∃ P, Keeps P W W' ∧ ∀ k, P k → ¬ M k
theorem CL.step {w0 W W' : World} {M : Nat → Prop} {g p : Nat} {s s' : LSt} {st st' : DSt} {O Q O' Q' : Nat → Prop} (h : CL w0 W M g p s st O Q) (hA : LogAt O Q W g p s' st' O' Q' W') : Stp w0 W W' M g p s' st' := by
  have hs := hA.keep.size
  have hs0 := h.below.size
  refine ⟨⟨O', Q', hA.wal, hA.disk, hA.olt, fun k hk => ?_, fun k hk hq => ?_, fun k hk => by have := h.mlt k hk; omega, hA.keep.below h.below h.below.size (fun x hx => h.ge x hx)⟩, _, hA.keep, fun k hk hm => h.apart k hm hk⟩
  · rcases hA.grow k hk with h1 | h1
    · exact h.ge k h1
    · omega
  · rcases hA.grow k hq with h1 | h1
    · exact h.apart k hk h1
    · have := h.mlt k hk; omega
theorem cl_does {w0 W : World} {M : Nat → Prop} {g p : Nat} {s : LSt} {st : DSt} {R kd n : Int} {k i : Nat} {bv : Value} {b : List Int} (h : CLs w0 W M g p s st) (hv : Inv s st R k i) (hk : k ≤ 1999990) (hi : i + 2002200 ≤ 4398046511103) (hR : R ≤ 9223372036854775807) (hI : Ints W .u8 bv b) (hb : By8 b) (hf : ∀ x, bv.ownBlock = some x → b ≠ [] → x < w0.heap.size) :
    Calls Tryz.prog 20 #[.pointer (some ⟨g, 0, none⟩), .agg #[.int .i64 kd, .int .i64 n, bv]] W fun e W' => e = .returned (.int .i64 (doesS s st kd n b).2.2) ∧ Stp w0 W W' M g p (doesS s st kd n b).1 (doesS s st kd n b).2.1 := by
  obtain ⟨O, Q, h⟩ := h
  refine (does_any O Q g p s st R i 2000000 kd n bv b W h.wal h.disk h.olt hv.fit (by have := hv.old; omega) hR (fun hc => hv.ok (by omega) hc) hv.first hv.top hI hb (fun x hx hne hq => by have := hf x hx hne; have := h.ge x hq; omega) hv.nu).mono ?_
  rintro e W' ⟨he, O', Q', hA⟩
  exact ⟨he, h.step hA⟩
theorem cl_arm {w0 W : World} {M : Nat → Prop} {g p : Nat} {s : LSt} {st : DSt} {at_ : Int} (h : CLs w0 W M g p s st) : Calls Tryz.prog 17 #[.pointer (some ⟨p, 0, none⟩), .int .i64 at_] W fun e W' => e = .returned (.tuple #[]) ∧ Stp w0 W W' M g p s (armF st at_) := by
  obtain ⟨O, Q, h⟩ := h
  refine (arm_any O p st at_ W h.disk).mono ?_
  rintro e W' ⟨rfl, hD, hK⟩
  obtain ⟨ov, lv, oldv, hw⟩ := h.wal
  have hs := hK.size
  refine ⟨rfl, ⟨O, Q, ⟨ov, lv, oldv, hw.disk hK (fun _ hk => hk) (fun _ hk => .inl hk)⟩, hD, fun k hk => by have := h.olt k hk; omega, h.ge, h.apart, fun k hk => by have := h.mlt k hk; omega, hK.below h.below h.below.size (fun x hx => h.ge x (.inl hx))⟩, O, hK, fun k hk hm => h.apart k hm (.inl hk)⟩
def Ind (P : DSt → Prop) : Prop := ∀ (st : DSt) (k nu n : Int) (l : List Int), (k = 0 ∨ k = 1 ∨ k = 2) → P st → P (doS st k (4 * nu + 1) n l)
theorem wrF_ind {P : DSt → Prop} (h : Ind P) {nu : Int} : ∀ (f : Nat) {st : DSt} {full : Nat} {rest : List Int}, P st → P (wrF (4 * nu + 1) f st full rest).1
  | 0, st, full, rest, h1 => h1
  | f + 1, st, full, rest, h1 => by
    have hd := h st 0 nu full (secW rest) (.inl rfl) h1
    rw [wrF]
    split
    · exact hd
    split
    · exact hd
    · exact wrF_ind h f hd
theorem wrS_ind {P : DSt → Prop} (h : Ind P) {s : LSt} {st : DSt} {b : List Int} (h1 : P st) : P (wrS s st b).2 := by
  unfold wrS
  split
  · exact h1
  · exact wrF_ind h _ h1
theorem syS_ind {P : DSt → Prop} (h : Ind P) {s : LSt} {st : DSt} (h1 : P st) : P (syS s st).2 := by
  unfold syS
  split
  · exact h1
  split
  · exact h1
  · rename_i q hq
    exact h st 1 q.nu 0 [] (.inr (.inl rfl)) h1
theorem beS_ind {P : DSt → Prop} (h : Ind P) {s : LSt} {st : DSt} {ix : Int} (h1 : P st) : P (beS s st ix).2 := by
  have hs := syS_ind h (s := s) h1
  unfold beS
  simp only
  split
  · exact hs
  · exact wrS_ind h hs
theorem frF_ind {P : DSt → Prop} (h : Ind P) : ∀ (f : Nat) {s : LSt} {st : DSt} {x : Int}, P st → P (frF f s st x).2
  | 0, s, st, x, h1 => h1
  | f + 1, s, st, x, h1 => by
    have hd := h st 2 (s.old.headD (0, 0)).1 0 [] (.inr (.inr rfl)) h1
    rw [frF]
    split
    · simp only
      split
      · exact hd
      · exact frF_ind h f hd
    · exact h1
theorem apS_ind {P : DSt → Prop} (h : Ind P) {s : LSt} {st : DSt} {b : List Int} (h1 : P st) : P (apS s st b).2.1 := by
  unfold apS
  split
  · exact h1
  split
  · exact h1
  split
  · exact h1
  simp only
  obtain ⟨r, hr⟩ : ∃ r, (if wantS s = true then beS s st (s.first + s.L.length) else (s, st)) = r := ⟨_, rfl⟩
  have hc : P r.2 := by
    rw [← hr]
    split
    · exact beS_ind h h1
    · exact h1
  rw [hr]
  split
  · exact hc
  · exact wrS_ind h hc
theorem coS_ind {P : DSt → Prop} (h : Ind P) {s : LSt} {st : DSt} {x : Int} (h1 : P st) : P (coS s st x).2.1 := by
  unfold coS
  split
  · exact h1
  split
  · exact h1
  split
  · exact h1
  simp only
  obtain ⟨r, hr⟩ : ∃ r, (if x = s.first + s.L.length then beS s st x else (s, st)) = r := ⟨_, rfl⟩
  have hc : P r.2 := by
    rw [← hr]
    split
    · exact beS_ind h h1
    · exact h1
  rw [hr]
  have hs := syS_ind h (s := r.1) hc
  split
  · exact hs
  have hf := frF_ind h (syS r.1 r.2).1.old.length (s := (syS r.1 r.2).1) (x := x) hs
  split
  · exact hf
  · exact hf
theorem doesS_ind {P : DSt → Prop} (h : Ind P) {s : LSt} {st : DSt} {kd n : Int} {b : List Int} (h1 : P st) : P (doesS s st kd n b).2.1 := by
  unfold doesS
  simp only
  split
  · exact apS_ind h h1
  split
  · exact syS_ind h h1
  split
  · unfold trS
    split
    · exact h1
    split
    · exact h1
    split
    · exact h1
    · exact beS_ind h h1
  split
  · exact coS_ind h h1
  · exact h1
def Calm (st : DSt) : Prop := st.dead = false ∧ st.left = -1
theorem calm_ind : Ind Calm := fun st k nu n l hk h => does_calm hk h.1 h.2
def Cnt (st : DSt) : Prop := (∀ a, st.A a = true → a % 4 = 1) ∧ ∃ la : List Int, la.Nodup ∧ (∀ a ∈ la, st.A a = true) ∧ st.C ≤ la.length
theorem Cnt.same {st st' : DSt} (h : Cnt st) (hA : st'.A = st.A) (hC : st'.C = st.C) : Cnt st' := by
  obtain ⟨h1, la, h2, h3, h4⟩ := h
  exact ⟨by rw [hA]; exact h1, la, h2, by rw [hA]; exact h3, by rw [hC]; exact h4⟩
theorem cnt_ind : Ind Cnt := by
  intro st k nu n l hk h
  have hw : Cnt (writeF st (4 * nu + 1) n l) := by
    unfold writeF
    split
    · exact h.same rfl rfl
    · by_cases hA : st.A (4 * nu + 1) = true
      · rw [if_pos hA]
        exact h.same rfl rfl
      · rw [if_neg hA]
        obtain ⟨h1, la, h2, h3, h4⟩ := h
        have hAx : ∀ x, (stepF (putS (openA { st with room := st.room - 1 } (4 * nu + 1)) (4 * nu + 1) n ([wholeI l], false))).A x = if x = 4 * nu + 1 then true else st.A x := fun x => rfl
        refine ⟨fun a ha => ?_, la ++ [4 * nu + 1], ?_, fun a ha => ?_, ?_⟩
        · rw [hAx] at ha
          split at ha
          · omega
          · exact h1 a ha
        · refine List.nodup_append.2 ⟨h2, by simp, fun a ha b hb e => ?_⟩
          rw [List.mem_singleton] at hb
          subst hb
          subst e
          exact hA (h3 _ ha)
        · rw [hAx]
          split
          · rfl
          · rename_i hne
            rcases List.mem_append.1 ha with ha | ha
            · exact h3 a ha
            · exact absurd (by simpa using ha) hne
        · show st.C + 1 ≤ _
          rw [List.length_append]
          simp only [List.length_cons, List.length_nil]
          omega
  have ht : Cnt (tickF st) := by
    unfold tickF
    split
    · exact h
    · exact h.same rfl rfl
  unfold doS
  split
  · split
    · exact h
    · exact hw
  split
  · split
    · exact ht
    · exact h.same rfl rfl
  split
  · split
    · exact ht
    · obtain ⟨h1, la, h2, h3, h4⟩ := h
      have hCx : (freeF st (4 * nu + 1)).C = if st.A (4 * nu + 1) = true then st.C - 1 else st.C := rfl
      refine ⟨fun a ha => ?_, la.erase (4 * nu + 1), h2.erase _, fun a ha => ?_, ?_⟩
      · rw [free_A] at ha
        split at ha
        · cases ha
        · exact h1 a ha
      · rw [free_A]
        have := (List.Nodup.mem_erase_iff h2).1 ha
        rw [if_neg this.1]
        exact h3 a this.2
      · rw [hCx]
        by_cases hm : 4 * nu + 1 ∈ la
        · rw [if_pos (h3 _ hm), List.length_erase_of_mem hm]
          omega
        · rw [List.erase_of_not_mem hm]
          split <;> omega
  split
  · omega
  · exact h
theorem nodup_len : ∀ (l m : List Int), l.Nodup → (∀ x ∈ l, x ∈ m) → l.length ≤ m.length
  | [], _, _, _ => Nat.zero_le _
  | a :: l, m, h, hs => by
    obtain ⟨h1, h2⟩ := List.nodup_cons.1 h
    have ha := hs a (by simp)
    have := nodup_len l (m.erase a) h2 (fun x hx => (List.mem_erase_of_ne (fun e => h1 (by rw [← e]; exact hx))).2 (hs x (by simp [hx])))
    rw [List.length_erase_of_mem ha] at this
    have := List.length_pos_of_mem ha
    simp only [List.length_cons]
    omega
theorem Cnt.few {st : DSt} {K : Nat} (h : Cnt st) (hK : ∀ n, st.A (4 * n + 1) = true → 0 ≤ n ∧ n < K) : st.C ≤ K := by
  obtain ⟨h1, la, h2, h3, h4⟩ := h
  have hsub : ∀ a ∈ la, a ∈ (List.range K).map (fun j : Nat => 4 * (j : Int) + 1) := by
    intro a ha
    have hA := h3 a ha
    have hm := h1 a hA
    have e : a = 4 * ((a - 1) / 4) + 1 := by omega
    rw [e] at hA
    have := hK _ hA
    exact List.mem_map.2 ⟨((a - 1) / 4).toNat, List.mem_range.2 (by omega), by omega⟩
  have hlen : la.length ≤ ((List.range K).map (fun j : Nat => 4 * (j : Int) + 1)).length := nodup_len _ _ h2 hsub
  rw [List.length_map, List.length_range] at hlen
  omega
end Go.Proofs.YtcpkpljeimbdiaaGreat.W
namespace Go.Proofs.YtcpkpljeimbdiaaGreat.W
open Go.RowKit
open Aid K
set_option linter.unusedSimpArgs false
set_option linter.unusedVariables false
theorem foldl_by : ∀ (C : List Sg) (x : Lg), (∀ b ∈ x.2, By8 b) → (∀ c ∈ C, ∀ b ∈ c.bs, By8 b) → ∀ b ∈ (chF x C).2, By8 b
  | [], x, h, _ => h
  | c :: t, x, h, hC => by
    refine foldl_by t (lay x c) (fun b hb => ?_) (fun d hd => hC d (by simp [hd]))
    unfold lay at hb
    split at hb
    · exact hC c (by simp) b hb
    · rcases List.mem_append.1 hb with hb | hb
      · exact h b (List.mem_of_mem_take hb)
      · exact hC c (by simp) b hb
theorem chF_pos : ∀ (C : List Sg) (x : Lg), 0 ≤ x.1 → 0 ≤ (chF x C).1
  | [], x, h => h
  | c :: t, x, h => by
    refine chF_pos t (lay x c) ?_
    unfold lay
    split
    · simp only; omega
    · exact h
theorem chD_pos {d : Int} (hd : 0 ≤ d) (C : List Sg) : 0 ≤ (chD d C).1 := by
  cases C with
  | nil => exact hd
  | cons c t =>
    unfold chD
    rw [chO_cons]
    exact chF_pos t _ (by simp only; omega)
theorem chD_by {d : Int} {C : List Sg} (hC : ∀ c ∈ C, ∀ b ∈ c.bs, By8 b) : ∀ b ∈ (chD d C).2, By8 b := by
  cases C with
  | nil => intro b hb; cases hb
  | cons c t =>
    unfold chD
    rw [chO_cons]
    exact foldl_by t _ (hC c (by simp)) (fun x hx => hC x (by simp [hx]))
theorem endS_le : ∀ {C : List Sg} {E : Int}, C ≠ [] → (∀ c ∈ C, (c.ix : Int) + c.bs.length ≤ E) → endS C ≤ E
  | [], _, h, _ => absurd rfl h
  | [c], E, _, h => h c (by simp)
  | _ :: d :: t, E, _, h => endS_le (C := d :: t) (by simp) (fun c hc => h c (by simp [hc]))
theorem asc_len : ∀ (C : List Sg) (a K : Int), C.Pairwise (fun x y => x.nu < y.nu) → (∀ c ∈ C, a ≤ c.nu ∧ c.nu < K) → C = [] ∨ (C.length : Int) + a ≤ K
  | [], _, _, _, _ => .inl rfl
  | c :: t, a, K, h, hb => by
    right
    obtain ⟨h1, h2⟩ := List.pairwise_cons.1 h
    have hc := hb c (by simp)
    rcases asc_len t (c.nu + 1) K h2 (fun x hx => by have := h1 x hx; have := hb x (by simp [hx]); omega) with h3 | h3
    · rw [h3]; simp only [List.length_cons, List.length_nil]; omega
    · simp only [List.length_cons]; omega
theorem inv_of {d nx E K R : Int} {X : List Sg} {st : DSt} {k i : Nat} (h : LgD d (logOf d X nx) st X none) (hd : 0 ≤ d ∧ d ≤ 4611686018427387904) (hB : Bd X E K) (hE : 0 ≤ E) (hnx : nx ≤ k) (hEk : E ≤ k) (hKk : K ≤ k) (hF : FitS st R i) : Inv (logOf d X nx) st R k i := by
  have hok := h.ond.ok
  have hpos := chD_pos hd.1 X
  have hlen : ((chD d X).2.length : Int) ≤ E ∧ (chD d X).1 + (chD d X).2.length ≤ 4611686018427387904 := by
    by_cases hn : X = []
    · subst hn
      exact ⟨hE, by show d + 0 ≤ _; omega⟩
    · have h1 := chD_end (d := d) h.ond.conn hn
      have h2 : endS X ≤ E := endS_le hn (fun c hc => (hB c hc).1)
      have h3 : endS X ≤ 4611686018427387904 := endS_le hn (fun c hc => by have := (hok c hc).top; omega)
      have h1' : (chD d X).1 + (chD d X).2.length = endS X := h1
      omega
  have hold : X.length ≤ k := by
    rcases asc_len X 0 K h.ond.asc (fun c hc => ⟨(hok c hc).n0, (hB c hc).2⟩) with h1 | h1
    · rw [h1]; exact Nat.zero_le _
    · omega
  refine ⟨fun hh => absurd hh (by rw [show ((logOf d X nx, st) : LSt × DSt).2 = st from rfl, h.dead]; decide), (fun _ q hq => by cases hq), ⟨h.nx, hnx⟩, hpos, hlen.2, by show (chD d X).2.length ≤ k; omega, by show (X.map _).length ≤ k; rw [List.length_map]; exact hold, fun x hx => ?_, chD_by (fun c hc => (hok c hc).by8), (fun q hq => by cases hq), hF⟩
  obtain ⟨c, hc, rfl⟩ := List.mem_map.1 hx
  exact ⟨(hok c hc).n0, (hok c hc).n1⟩
structure CutB (T : Nat) (st : DSt) : Prop where
  rdy : ∃ X v, Rdy st X v ∧ Bd X (T + 1) (T + 2) ∧ ∀ n, v = some n → n < T + 2
  pln : Pln st
  calm : Calm st
  fit : FitS st 1073741824 (T * 1050400 + 1)
  cnt : Cnt st
  room : 1073741824 - 610 * (T : Int) ≤ st.room
structure CutP (T : Nat) (s : LSt) (st : DSt) (was : List Lg) (at_ : Int) : Prop where
  lg : ∃ C l, LgD 1 s st C l ∧ Cov 1 was C l ∧ Bd (all C l) (T + 1) (T + 2)
  inv : Inv s st 1073741824 (T + 2) (T * 1050400)
  mem : (s.first, s.L) ∈ was
  len : was.length ≤ T + 1
  endd : s.first + s.L.length ≤ T + 1
  room : 1073741824 - 610 * (T : Int) ≤ st.room
  calm : at_ = -1 → st.left = -1
  cnt : Cnt st
  lo : ∀ r ∈ was, 0 ≤ r.1 ∧ r.1 ≤ 4000000000000000
structure CutE (T : Nat) (st : DSt) (was : List Lg) (at_ : Int) : Prop where
  ond : ∃ C l, OnD st C l ∧ Cov 1 was C l ∧ Bd (all C l) (T + 1) (T + 2)
  pln : Pln st
  fit : FitS st 1073741824 (T * 1050400)
  room : 1073741824 - 610 * (T : Int) ≤ st.room
  live : st.dead = false → ∃ s C l, LgD 1 s st C l ∧ Bd (all C l) (T + 1) (T + 2)
  calm : at_ = -1 → Calm st
  len : was.length ≤ T + 1
  cnt : Cnt st
  lo : ∀ r ∈ was, 0 ≤ r.1 ∧ r.1 ≤ 4000000000000000
theorem doF_lo {f : Lg} {kd n : Int} {b : List Int} (h0 : 0 ≤ f.1) (h1 : f.1 + f.2.length ≤ 4000000000000000) : 0 ≤ (doF f kd n b).1.1 ∧ (doF f kd n b).1.1 ≤ 4000000000000000 := by
  unfold doF
  simp only [IntKind.wrap_u64]
  split
  · split <;> (dsimp only; omega)
  · split
    · split <;> (dsimp only; omega)
    · split
      · split
        · dsimp only; omega
        · split <;> (dsimp only; omega)
      · dsimp only; omega
theorem lo_snoc {was : List Lg} {r : Lg} (h : ∀ r ∈ was, 0 ≤ r.1 ∧ r.1 ≤ 4000000000000000) (hr : 0 ≤ r.1 ∧ r.1 ≤ 4000000000000000) : ∀ x ∈ was ++ [r], 0 ≤ x.1 ∧ x.1 ≤ 4000000000000000 := fun x hx => by
  rcases List.mem_append.1 hx with hx | hx
  · exact h x hx
  · rw [List.mem_singleton] at hx; rw [hx]; exact hr
theorem Cnt.arm {st : DSt} {at_ : Int} (h : Cnt st) : Cnt (armF st at_) := by
  unfold armF
  split
  · exact h
  · exact h.same rfl rfl
theorem CutB.C {T : Nat} {st : DSt} (h : CutB T st) (hT : T ≤ 1048590) : st.C ≤ 1048600 := by
  obtain ⟨X, v, h1, h2, h3⟩ := h.rdy
  have := h.cnt.few (K := T + 2) (fun n hA => by
    have hw := h.pln.wfa _ hA
    have hm := (h1.there n (by omega)).1 hA
    refine ⟨by omega, ?_⟩
    rcases List.mem_append.1 hm with hm | hm
    · obtain ⟨c, hc, rfl⟩ := List.mem_map.1 hm
      have := (h2 c hc).2
      omega
    · cases v with
      | none => cases hm
      | some y =>
        have e : n = y := by simpa using hm
        rw [e]
        have := h3 y rfl
        omega)
  omega
theorem setF_ind {P : DSt → Prop} (h : Ind P) : ∀ (N gone : List Int) (st : DSt), P st → P (setF N gone st).1
  | [], gone, st, h1 => h1
  | n :: N, gone, st, h1 => by
    obtain ⟨k, hk⟩ : ∃ k : Int, (if hasB gone n = true then 2 else 1) = k := ⟨_, rfl⟩
    have hk12 : k = 1 ∨ k = 2 := by rw [← hk]; split <;> simp
    have hd := h st k n 0 [] (.inr hk12) h1
    rw [setF]
    simp only [hk]
    split
    · exact hd
    · exact setF_ind h N gone _ hd
theorem CutB.opens {T : Nat} {st : DSt} {xs : List Int} (h : CutB T st) (hT : T ≤ 1048590) (hx : AreasOf st xs) (hxl : xs.length ≤ 1048600) :
    ∃ s st1, opF st xs 0 1 = (some s, st1, 0) ∧ st1.left = -1 ∧ CutP (T + 1) s st1 [(s.first, s.L)] (-1) ∧ (∃ X v, Rdy st X v ∧ (s.first, s.L) = chD 1 X ∧ s.old.length = X.length) := by
  obtain ⟨X, v, h1, h2, h3⟩ := h.rdy
  have hK : ∀ n ∈ X.map (fun c => c.nu) ++ v.toList, n < (T : Int) + 2 := by
    intro n hn
    rcases List.mem_append.1 hn with hn | hn
    · obtain ⟨c, hc, rfl⟩ := List.mem_map.1 hn
      exact (h2 c hc).2
    · cases v with
      | none => cases hn
      | some y =>
        have e : n = y := by simpa using hn
        rw [e]; exact h3 y rfl
  have hK0 : ∀ n ∈ X.map (fun c => c.nu) ++ v.toList, 0 ≤ n := by
    intro n hn
    rcases List.mem_append.1 hn with hn | hn
    · obtain ⟨c, hc, rfl⟩ := List.mem_map.1 hn
      exact (h1.text c hc).1.n0
    · cases v with
      | none => cases hn
      | some y =>
        have e : n = y := by simpa using hn
        rw [e]; exact (h1.void y rfl).1
  obtain ⟨nx, st1, e1, e2, e3, e4, e5⟩ := h1.opens (fr := 0) (d := 1) (K := (T : Int) + 2) h.pln hx h.calm.1 h.calm.2 (by decide) hK (by omega) hK0 (by omega)
  have hfit : FitS st1 1073741824 (T * 1050400 + 1 + 1048600) := by
    obtain ⟨_, _, _, gone, _, z5, _⟩ := opF_some e1
    have h4 := (setF_same 1073741824 (numsF (QU.srt xs)) gone st (T * 1050400 + 1) h.pln h.fit (nums_range h.pln hx)).2
    rw [z5] at h4
    have := nums_few (xs := xs)
    exact fit_mono h4 (by omega)
  have hcnt : Cnt st1 := by
    obtain ⟨_, _, _, gone, _, z5, _⟩ := opF_some e1
    have h4 := setF_ind cnt_ind (numsF (QU.srt xs)) gone st h.cnt
    rw [z5] at h4
    exact h4
  have hend : (chD 1 X).1 + ((chD 1 X).2.length : Int) ≤ (T : Int) + 1 := by
    by_cases hn : X = []
    · subst hn
      show (1 : Int) + 0 ≤ _
      omega
    · rw [chD_end h1.conn hn]
      exact endS_le hn (fun c hc => (h2 c hc).1)
  refine ⟨logOf 1 X nx, st1, e1, e4, ⟨⟨X, none, e2, ?_, fun c hc => by have := h2 c hc; push_cast; omega⟩, ?_, by simp, by simp, ?_, by push_cast; have := h.room; omega, fun _ => e4, hcnt, fun r hr => by
    rw [List.mem_singleton] at hr
    rw [hr]
    have := chD_pos (d := 1) (by decide) X
    show 0 ≤ (chD 1 X).1 ∧ (chD 1 X).1 ≤ _
    omega⟩, X, v, h1, rfl, by unfold logOf; simp⟩
  · rintro Y rfl
    exact ⟨((logOf 1 Y nx).first, (logOf 1 Y nx).L), by simp, (Suf.refl (chD 1 Y) : Suf ((logOf 1 Y nx).first, (logOf 1 Y nx).L) (chD 1 Y))⟩
  · exact (inv_of (k := T + 3) e2 (by decide) h2 (by omega) (by push_cast; omega) (by push_cast; omega) (by push_cast; omega) hfit).mono (by omega) (by omega)
  · show (chD 1 X).1 + ((chD 1 X).2.length : Int) ≤ _
    push_cast
    omega
theorem CutP.arm {T : Nat} {s : LSt} {st : DSt} {was : List Lg} {at_ : Int} (h : CutP T s st was (-1)) (ha : at_ ≤ 9223372036854775807) : CutP T s (armF st at_) was at_ := by
  obtain ⟨C, l, h1, h2, h3⟩ := h.lg
  have hd : (armF st at_) = { st with left := max at_ (-1) } := by unfold armF; rw [if_neg (by rw [h1.dead]; decide)]
  refine ⟨⟨C, l, ⟨?_, ?_, ?_, h1.code, ?_, h1.old, h1.nxt, h1.nx, h1.suf⟩, h2, h3⟩, inv_arm h.inv ha, h.mem, h.len, h.endd, ?_, fun e => ?_, h.cnt.arm, h.lo⟩
  · rw [hd]; exact h1.ond.same rfl rfl
  · rw [hd]; exact h1.pln.same rfl rfl
  · rw [hd]; exact h1.dead
  · rw [hd]
    have ho := h1.opn
    cases hq : s.opn with
    | none =>
      rw [hq] at ho
      cases l with
      | none => trivial
      | some x => exact ho.elim
    | some q =>
      rw [hq] at ho
      cases l with
      | none => exact ho.elim
      | some x =>
        obtain ⟨c, k⟩ := x
        have ho : OpOf st q c := ho
        exact (⟨ho.nu, ho.ix, ho.cur, ho.rest, ho.fu⟩ : OpOf { st with left := max at_ (-1) } q c)
  · rw [hd]; exact h.room
  · rw [hd, e]; rfl
theorem CutP.does {T : Nat} {s : LSt} {st : DSt} {was : List Lg} {at_ kd n : Int} {b : List Int} (h : CutP T s st was at_) (hT : T ≤ 1048590) (hb : By8 b) (hn : -1000000 < n ∧ n < 1000000) :
    ((doesS s st kd n b).2.1.dead = true ∧ CutE (T + 1) (doesS s st kd n b).2.1 (was ++ [(doF (s.first, s.L) kd n b).1]) at_) ∨
    ((doesS s st kd n b).2.1.dead = false ∧ (doesS s st kd n b).2.2 = (doF (s.first, s.L) kd n b).2 ∧ ((doesS s st kd n b).1.first, (doesS s st kd n b).1.L) = (doF (s.first, s.L) kd n b).1 ∧
      CutP (T + 1) (doesS s st kd n b).1 (doesS s st kd n b).2.1 (if kd = 1 then [(doF (s.first, s.L) kd n b).1] else was ++ [(doF (s.first, s.L) kd n b).1]) at_) := by
  obtain ⟨C, l, h1, h2, h3⟩ := h.lg
  have hr := h.room
  have he := h.endd
  have haf := doesS_after (E := (T : Int) + 1) (K := (T : Int) + 2) (kd := kd) (n := n) h1 h2 h.inv (by omega) hb (by omega) (by omega) h.mem hn h3 he (by have := h.inv.next; push_cast at this; omega)
  have hinv := (h.inv.does (kd := kd) (n := n) (b := b) (by omega) hb).mono (k' := T + 1 + 2) (i' := (T + 1) * 1050400) (by omega) (by omega)
  have hcnt := doesS_ind cnt_ind (s := s) (kd := kd) (n := n) (b := b) h.cnt
  have hcalm : at_ = -1 → Calm (doesS s st kd n b).2.1 := fun e => doesS_ind calm_ind ⟨h1.dead, h.calm e⟩
  have hlen := h.len
  have hlo := doF_lo (f := (s.first, s.L)) (kd := kd) (n := n) (b := b) h.inv.first (by dsimp only; omega)
  obtain ⟨x, hx⟩ : ∃ x, doesS s st kd n b = x := ⟨_, rfl⟩
  rw [hx] at haf hinv hcnt hcalm ⊢
  obtain ⟨a1, a2, a3⟩ := haf
  rcases a3 with ⟨a3, C1, l1, a4, a5, a6⟩ | ⟨a3, a4, a5, C1, l1, a6, a7, a8⟩
  · left
    refine ⟨a3, ⟨C1, l1, a4, a5, fun c hc => by have := a6 c hc; push_cast; omega⟩, a1, hinv.fit, by push_cast; omega, (fun hh => by rw [a3] at hh; cases hh), hcalm, by rw [List.length_append]; simp only [List.length_cons, List.length_nil]; omega, hcnt, lo_snoc h.lo hlo⟩
  · right
    have hcov : Cov 1 (if kd = 1 then [(doF (s.first, s.L) kd n b).1] else was ++ [(doF (s.first, s.L) kd n b).1]) C1 l1 := by
      by_cases hk : kd = 1
      · rw [decide_eq_true hk, if_pos rfl] at a7
        rw [if_pos hk]; exact a7
      · rw [decide_eq_false hk, if_neg (by decide)] at a7
        rw [if_neg hk]; exact a7
    refine ⟨a3, a4, a5, ⟨C1, l1, a6, hcov, fun c hc => by have := a8 c hc; push_cast; omega⟩, hinv, ?_, ?_, ?_, by push_cast; omega, fun e => (hcalm e).2, hcnt, by
      split
      · exact fun x hx => by rw [List.mem_singleton] at hx; rw [hx]; exact hlo
      · exact lo_snoc h.lo hlo⟩
    · rw [a5]; split <;> simp
    · split
      · simp
      · rw [List.length_append]; simp only [List.length_cons, List.length_nil]; omega
    · by_cases hnil : all C1 l1 = []
      · have hs := a6.suf
        rw [hnil] at hs
        obtain ⟨v1, v2⟩ := Suf.void hs
        simp only at v1 v2
        rw [v1, v2]
        push_cast
        simp only [List.length_nil]
        omega
      · rw [a6.endd hnil]
        push_cast
        exact endS_le hnil (fun c hc => by have := (a8 c hc).1; omega)
theorem CutP.skip {T : Nat} {s : LSt} {st : DSt} {was : List Lg} {at_ : Int} (h : CutP T s st was at_) : CutP (T + 1) s st was at_ := by
  obtain ⟨C, l, h1, h2, h3⟩ := h.lg
  have hr := h.room
  have he := h.endd
  have hl := h.len
  exact ⟨⟨C, l, h1, h2, fun c hc => by have := h3 c hc; push_cast; omega⟩, h.inv.mono (by omega) (by omega), h.mem, by omega, by push_cast; omega, by push_cast; omega, h.calm, h.cnt, h.lo⟩
theorem CutP.ends {T : Nat} {s : LSt} {st : DSt} {was : List Lg} {at_ : Int} (h : CutP T s st was at_) : CutE T st was at_ := by
  obtain ⟨C, l, h1, h2, h3⟩ := h.lg
  exact ⟨⟨C, l, h1.ond, h2, h3⟩, h1.pln, h.inv.fit, h.room, fun _ => ⟨s, C, l, h1, h3⟩, fun e => ⟨h1.dead, h.calm e⟩, h.len, h.cnt, h.lo⟩
theorem CutB.new : CutB 0 (newSt 1073741824) :=
  ⟨⟨[], none, ⟨(fun c hc => by cases hc), (fun n e => by cases e), List.Pairwise.nil, fun n hn => ⟨(fun h => by cases h), (fun h => by cases h)⟩, trivial⟩, (fun c hc => by cases hc), (fun n e => by cases e)⟩, Pln.new _, ⟨rfl, rfl⟩, fit_mono (i := 0) (fit_new (by decide)) (by decide), ⟨(fun a h => by cases h), [], List.nodup_nil, (fun a h => by cases h), Nat.le_refl _⟩, by show (1073741824 : Int) - 610 * ((0 : Nat) : Int) ≤ 1073741824; decide⟩
end Go.Proofs.YtcpkpljeimbdiaaGreat.W
namespace Go.Proofs.YtcpkpljeimbdiaaGreat.W
open Go.RowKit
open Aid K
set_option linter.unusedSimpArgs false
set_option linter.unusedVariables false
theorem CutE.mono {T T' : Nat} {st : DSt} {was : List Lg} {at_ : Int} (h : CutE T st was at_) (hT : T ≤ T') : CutE T' st was at_ := by
  obtain ⟨C, l, h1, h2, h3⟩ := h.ond
  have hr := h.room
  have hl := h.len
  refine ⟨⟨C, l, h1, h2, fun c hc => by have := h3 c hc; omega⟩, h.pln, fit_mono h.fit (Nat.mul_le_mul_right _ hT), by omega, fun hd => ?_, h.calm, by omega, h.cnt, h.lo⟩
  obtain ⟨s, C, l, k1, k2⟩ := h.live hd
  exact ⟨s, C, l, k1, fun c hc => by have := k2 c hc; omega⟩
def CutI (w0 : World) (g p B : Nat) (at_ : Int) (T : Nat) (v : Value) (wr : World) : Prop :=
  ∃ s st was u, CLs w0 wr (fun k => k = B ∨ v.ownBlock = some k) g p s st ∧ Blk wr B 41 #[.int .u64 s.first, u] ∧ TRow wr u (s.L.map strI) ∧ WRow wr v was ∧ ¬ v.ownBlock = some B ∧ CutP T s st was at_
def CutEnd (w0 : World) (p T : Nat) (at_ : Int) (e : Ending) (w' : World) : Prop := ∃ v was st', e = .returned (.tuple #[v, .bool true]) ∧ WRow w' v was ∧ DL w0 w' p st' ∧ CutE T st' was at_
set_option maxRecDepth 100000 in
set_option maxHeartbeats 8000000 in
theorem cut_any (w0 W : World) (p T n : Nat) (st : DSt) (at_ : Int) (v : Value) (f : Nat → WOp) (hD : DL w0 W p st) (hB : CutB T st) (hT : T + n ≤ 1048580) (hO : WOps w0 v n f) (hat : (Lit.int .i64 at_).wf = true) :
    Calls Tryz.prog 6 #[.pointer (some ⟨p, 0, none⟩), .int .i64 at_, v] W (CutEnd w0 p (T + 1 + n) at_) := by
  obtain ⟨a0, cap0, hv0, hel0⟩ := hO.2
  subst hv0
  have hat2 : -9223372036854775808 ≤ at_ ∧ at_ ≤ 9223372036854775807 := by
    have := hat
    simp [Lit.wf, IntKind.min, IntKind.max, IntKind.signed, IntKind.bits] at this
    omega
  have hlen : IntKind.i64.wrap (n : Int) = (n : Int) := IntWalk.i64_in _ (by omega)
  have hC := hB.C (by omega)
  have hop := dl_openg (R := 1073741824) (i := T * 1050400 + 1) (fr := 0) (first := 1) hD hB.pln.sects hB.fit (by omega) hC (by decide) hB.calm.1 (by decide) (by decide)
  have hxl : ∀ xs, AreasOf st xs → xs.length ≤ 1048600 := fun xs hx => by
    obtain ⟨O, hO, _⟩ := hD
    have h1 := areas_few hO (by omega)
    rw [← areasL_eq hx] at h1
    have h2 : (QI.srt xs).length = xs.length := (List.mergeSort_perm xs _).length_eq
    omega
  have HE := Lib.hid hel0
  have HBB := Lib.hid hB
  have HXL := Lib.hid hxl
  have HOP := Lib.hid hop
  clear hel0 hO hB hxl hop hD
  go_enter Tryz.func6, Tryz.ntmps6
  go_wp2_with fail
  refine HOP.out.mono ?_
  rintro e w1 ⟨xs, hx, hE⟩
  obtain ⟨s, st1, e1, hl1, hP1, _⟩ := HBB.out.opens (by omega) hx (HXL.out xs hx)
  rw [e1] at hE
  obtain ⟨g, rfl, H1⟩ := hE
  have HP1 := Lib.hid hP1
  have HH1 := Lib.hid H1
  have HF := Lib.hid (al_first H1)
  have HAL := Lib.hid (al_all H1 hP1.inv (by omega))
  clear hx e1 hP1 H1
  go_wp2_with fail
  refine HF.out.mono ?_
  rintro e w2 ⟨rfl, hw2⟩
  obtain rfl : w1 = w2 := hw2.symm
  go_wp2_with fail
  refine HAL.out.mono ?_
  rintro e w2 ⟨rv, rfl, hO2, hb2⟩
  have hLl := HP1.out.inv.len
  have hT2 := TRow.of_own hO2 (by rw [List.length_map]; omega)
  obtain ⟨ra, rc, rfl, _⟩ := hT2.form
  obtain ⟨rl, hrl⟩ : ∃ rl, (s.L.map strI).length = rl := ⟨_, rfl⟩
  rw [hrl] at hT2 ⊢
  obtain ⟨B, hBe⟩ : ∃ B, w2.heap.size = B := ⟨_, rfl⟩
  obtain ⟨w3, hw3⟩ : ∃ w3, w2.alloc (.cells #[.int .u64 s.first, .slice ra rl rc] 41) = w3 := ⟨_, rfl⟩
  have hb3 : Below w2.heap.size w2 w3 := by rw [← hw3]; exact (Below.refl _ _).alloc (Nat.le_refl _) _
  have hB3 : Blk w3 B 41 #[.int .u64 s.first, .slice ra rl rc] := by rw [← hw3, ← hBe]; exact Blk.alloc_new _ _ _
  have hs3 : w3.heap.size = B + 1 := by rw [← hw3, ← hBe]; simp
  obtain ⟨B2, hB2e⟩ : ∃ B2, w3.heap.size = B2 := ⟨_, rfl⟩
  obtain ⟨w4, hw4⟩ : ∃ w4, w3.alloc (.cells #[.int .u64 s.first, .slice ra rl rc] 41) = w4 := ⟨_, rfl⟩
  have hb4 : Below w3.heap.size w3 w4 := by rw [← hw4]; exact (Below.refl _ _).alloc (Nat.le_refl _) _
  have hB4 : Blk w4 B2 41 #[.int .u64 s.first, .slice ra rl rc] := by rw [← hw4, ← hB2e]; exact Blk.alloc_new _ _ _
  have hB3' : Blk w4 B 41 #[.int .u64 s.first, .slice ra rl rc] := Blk.below hB3 hb4 (Blk.lt hB3)
  have hT4 := (hT2.below hb3).below hb4
  have hBl3 := Blk.lt hB3
  have hBl4 := Blk.lt hB4
  have HCL4 := Lib.hid ((((HH1.out.cl.below hb2).below hb3).below hb4).anti (M' := fun k => k = B ∨ (Value.slice (some ⟨B2, 0, none⟩) 1 1).ownBlock = some k) (fun k hk => by
    rcases hk with rfl | hk
    · exact .inl (.inr ⟨by omega, hBl3⟩)
    · have hk' : B2 = k := by cases hk; rfl
      subst hk'
      exact .inr ⟨by omega, hBl4⟩))
  have HWR4 := Lib.hid (show WRow w4 (.slice (some ⟨B2, 0, none⟩) 1 1) [(s.first, s.L)] from ⟨[((s.first, s.L), .slice ra rl rc)], rfl, (fun q hq => by rw [List.mem_singleton] at hq; rw [hq]; exact hT4), rfl, .inr ⟨B2, 1, _, rfl, hB4, Nat.le_refl _, by unfold maxLen; decide, rfl, rfl, fun u hu => by
    rcases List.mem_cons.1 hu with rfl | hu
    · intro x e; cases e
    · rw [List.mem_singleton] at hu
      subst hu
      intro x e; cases e⟩⟩)
  obtain ⟨b0, b1⟩ : w3.cell? ⟨B, 0, none⟩ = some (.int .u64 s.first) ∧ w3.cell? ⟨B, 1, none⟩ = some (.slice ra rl rc) := ⟨hB3.cell 0, hB3.cell 1⟩
  have HB3 := Lib.hid hB3'
  have HT4 := Lib.hid hT4
  have hne : ¬ B2 = B := by have := hb3.size; omega
  have HNE := Lib.hid hne
  clear hs3 hBl3 hBl4 hB4 hB3' hT4 hB3 hT2 hO2 hrl hne hb2 hb3 hb4
  go_wp2_with fail
  refine (cl_arm (at_ := at_) HCL4.out).mono ?_
  rintro e w5 ⟨rfl, HS5⟩
  obtain ⟨P5, hK5, hP5⟩ := HS5.keep
  have hI5 : CutI w0 g p B at_ (T + 1 + 0) (.slice (some ⟨B2, 0, none⟩) 1 1) w5 :=
    ⟨s, armF st1 at_, [(s.first, s.L)], .slice ra rl rc, HS5.cl, blk_keep HB3.out hK5 (fun h => hP5 B h (.inl rfl)), HT4.out.keep hK5, HWR4.out.keep hK5 (fun k hk h => hP5 k h (.inr hk)), fun h => HNE.out (by cases h; rfl), HP1.out.arm hat2.2⟩
  have HI5 := Lib.hid hI5
  clear hI5 hK5 hP5 HS5 hw3 hw4 hBe hB2e b0 b1
  go_wp2_with fail
  go_loopw [11, 36] (fun x11 x36 wr => ∃ (j : Nat) (gv : Value), gv = x11 ∧ x36 = .int .i64 j ∧ j ≤ n ∧ Hid (CutI w0 g p B at_ (T + 1 + j) gv wr)) (fun _ x36 _ => (n - intOf x36).toNat)
  case atStart => exact ⟨0, _, rfl, rfl, Nat.zero_le _, HI5⟩
  case round =>
    clear HI5 HCL4 HWR4 HB3 HT4 HNE HP1 HH1 HF HAL
    obtain ⟨j, x11, hx11, rfl, hj, HJ⟩ := hrel
    subst hx11
    by_cases hlt : (j : Int) < (n : Int)
    · obtain ⟨b, o, rfl, hb, c0, c1, c2, hok⟩ := HE.out j (by omega)
      obtain ⟨s, st, was, u, hcl, hB, hT, hW, hnb, hP⟩ := HJ.out
      clear HJ
      obtain ⟨x, hx⟩ : ∃ x, f j = x := ⟨_, rfl⟩
      rw [hx] at c0 c1 c2 hok
      obtain ⟨kd, n1, v, l⟩ := x
      simp only at c0 c1 c2
      have hbw := hcl.bel
      have hsr := hbw.size
      have c0' : wr.cell? ⟨b, o + j * 3, none⟩ = some (.int .i64 kd) := (hbw.cell (p := ⟨b, o + j * 3, none⟩) hb).trans c0
      have c1' : wr.cell? ⟨b, o + j * 3 + 1, none⟩ = some (.int .i64 n1) := (hbw.cell (p := ⟨b, o + j * 3 + 1, none⟩) hb).trans c1
      have c2' : wr.cell? ⟨b, o + j * 3 + 2, none⟩ = some v := (hbw.cell (p := ⟨b, o + j * 3 + 2, none⟩) hb).trans c2
      have hby := wop_by hok
      have HK := Lib.hid hok
      obtain ⟨va, vc, hve⟩ := hok.ints.form
      simp only at hve hby
      obtain ⟨vl, hvl⟩ : ∃ vl, l.length = vl := ⟨_, rfl⟩
      rw [hvl] at hve
      subst hve
      clear c0 c1 c2 hok hx hvl
      obtain ⟨Z, hZ⟩ : ∃ Z, wr.heap.size = Z := ⟨_, rfl⟩
      obtain ⟨W1, hW1⟩ : ∃ W1, wr.alloc (.cells #[.int .i64 kd, .int .i64 n1, .slice va vl vc] 55) = W1 := ⟨_, rfl⟩
      have hb1 : Below wr.heap.size wr W1 := by rw [← hW1]; exact (Below.refl _ _).alloc (Nat.le_refl _) _
      have hBk : Blk W1 Z 55 #[.int .i64 kd, .int .i64 n1, .slice va vl vc] := by rw [← hW1, ← hZ]; exact Blk.alloc_new _ _ _
      obtain ⟨z0, z1, z2⟩ := op_cells (x := ⟨kd, n1, .slice va vl vc, l⟩) hBk
      simp only at z0 z1 z2
      have hinext : IntKind.i64.wrap ((j : Int) + 1) = ((j + 1 : Nat) : Int) := IntWalk.i64_in _ (by omega)
      have hnext : ∀ gv w', CutI w0 g p B at_ (T + 1 + (j + 1)) gv w' → (∃ (j' : Nat) (gv' : Value), gv' = gv ∧ Value.int IntKind.i64 ((j : Int) + 1) = .int .i64 j' ∧ j' ≤ n ∧ Hid (CutI w0 g p B at_ (T + 1 + j') gv' w')) ∧ ((n : Int) - intOf (.int .i64 ((j : Int) + 1))).toNat < ((n : Int) - intOf (.int .i64 (j : Int))).toNat := by
        intro gv w' hA'
        refine ⟨⟨j + 1, gv, rfl, by congr 1, by omega, Lib.hid hA'⟩, ?_⟩
        simp [intOf]; omega
      have HNX := Lib.hid hnext
      have hB1 := Blk.below hB hb1 (Blk.lt hB)
      have hT1 := hT.below hb1
      have hW1' := hW.keep (P := fun _ => False) (Keeps.of_below hb1) (fun _ _ h => h)
      have hcl1 := hcl.below hb1
      have hZl := Blk.lt hBk
      have HST := Lib.hid (show CutI w0 g p B at_ (T + 1 + j + 1) x11 W1 from ⟨s, st, was, u, hcl1.anti (fun k hk => .inl hk), hB1, hT1, hW1', hnb, hP.skip⟩)
      have HC1 := Lib.hid hcl1
      have HB1 := Lib.hid hB1
      have HT1 := Lib.hid hT1
      have HW1 := Lib.hid hW1'
      have HP := Lib.hid hP
      have HBK := Lib.hid hBk
      have HNB := Lib.hid hnb
      clear hnext hB hT hW hcl hb1 hB1 hT1 hW1' hcl1 hP hBk hbw hnb
      go_wp2_with fail
      refine (near_any kd n1 _ W1).mono ?_
      rintro e W2 ⟨rfl, hbn⟩
      cases hn : nearB n1 with
      | false =>
        go_wp2_with fail
        obtain ⟨s, st, was, u, q1, q2, q3, q4, q5, q6⟩ := HST.out
        exact HNX.out x11 _ ⟨s, st, was, u, (q1.below hbn).anti (fun k hk => .inl hk), Blk.below q2 hbn (Blk.lt q2), q3.below hbn, q4.keep (P := fun _ => False) (Keeps.of_below hbn) (fun _ _ h => h), q5, q6⟩
      | true =>
        have hnr : -1000000 < n1 ∧ n1 < 1000000 := by
          unfold nearB at hn
          simpa using hn
        have y0 := (hbn.cell (p := ⟨Z, 0, none⟩) hZl).trans z0
        have y1 := (hbn.cell (p := ⟨Z, 1, none⟩) hZl).trans z1
        have y2 := (hbn.cell (p := ⟨Z, 2, none⟩) hZl).trans z2
        have hs2 := hbn.size
        have hB2 := Blk.below HB1.out hbn (Blk.lt HB1.out)
        obtain ⟨ua, uc, hue, _⟩ := HT1.out.form
        obtain ⟨ul, hul⟩ : ∃ ul, (s.L.map strI).length = ul := ⟨_, rfl⟩
        rw [hul] at hue
        have r0 : W2.cell? ⟨B, 0, none⟩ = some (.int .u64 s.first) := hB2.cell 0
        have r1 : W2.cell? ⟨B, 1, none⟩ = some (.slice ua ul uc) := by rw [← hue]; exact hB2.cell 1
        have hinv := HP.out.inv
        have hT2 := HT1.out.below hbn
        rw [hue] at hT2
        have hok2 := (HK.out.below (HC1.out.bel)).below hbn
        have HDO := Lib.hid (do_any s.first _ s.L kd n1 _ l W2 hT2 hok2.ints hby ⟨hinv.first, hinv.top⟩ (by have := hinv.len; omega) hnr)
        clear hT2 hok2 hinv hul
        go_wp2_with fail
        refine HDO.out.mono ?_
        rintro e W3 ⟨v', rfl, hT3, hb3⟩
        obtain ⟨r2, f2⟩ : ∃ r2, doF (s.first, s.L) kd n1 l = r2 := ⟨_, rfl⟩
        rw [f2] at hT3 ⊢
        obtain ⟨⟨rf, rL⟩, rc⟩ := r2
        simp only at hT3 ⊢
        obtain ⟨sa, sc, rfl, _⟩ := hT3.form
        obtain ⟨sl, hsl⟩ : ∃ sl, (rL.map strI).length = sl := ⟨_, rfl⟩
        rw [hsl] at hT3 ⊢
        have HF2 := Lib.hid f2
        clear f2 hsl
        obtain ⟨S, hS⟩ : ∃ S, W3.heap.size = S := ⟨_, rfl⟩
        obtain ⟨W4, hW4⟩ : ∃ W4, W3.alloc (.cells #[.int .u64 rf, .slice sa sl sc] 41) = W4 := ⟨_, rfl⟩
        have hb4 : Below W3.heap.size W3 W4 := by rw [← hW4]; exact (Below.refl _ _).alloc (Nat.le_refl _) _
        have hS4 : Blk W4 S 41 #[.int .u64 rf, .slice sa sl sc] := by rw [← hW4, ← hS]; exact Blk.alloc_new _ _ _
        have hs3 := hb3.size
        have hs4 := hb4.size
        have hcl4 := ((HC1.out.below hbn).below hb3).below hb4
        have x0 : W4.cell? ⟨Z, 0, none⟩ = some (.int .i64 kd) := ((hb3.trans (hb4.mono hs3)).cell (p := ⟨Z, 0, none⟩) (by show Z < _; omega)).trans y0
        have x1 : W4.cell? ⟨Z, 1, none⟩ = some (.int .i64 n1) := ((hb3.trans (hb4.mono hs3)).cell (p := ⟨Z, 1, none⟩) (by show Z < _; omega)).trans y1
        have x2 : W4.cell? ⟨Z, 2, none⟩ = some (.slice va vl vc) := ((hb3.trans (hb4.mono hs3)).cell (p := ⟨Z, 2, none⟩) (by show Z < _; omega)).trans y2
        have hok4 := HK.out.below hcl4.bel
        have HCD := Lib.hid (cl_does (kd := kd) (n := n1) hcl4 HP.out.inv (by omega) (by omega) (by decide) hok4.ints hby (fun x hx hne => by
          rcases HK.out.ints.2 with ⟨h1, _⟩ | ⟨b', o', c', hv, hb', _⟩
          · exact absurd h1 hne
          · rw [hv] at hx; cases hx; exact hb'))
        have HDP := Lib.hid (HP.out.does (kd := kd) (n := n1) (b := l) (by omega) hby hnr)
        rw [HF2.out] at HDP
        have hB4 := Blk.below (Blk.below hB2 hb3 (Blk.lt hB2)) hb4 (by have := Blk.lt hB2; omega)
        have HB4 := Lib.hid hB4
        have HS4 := Lib.hid hS4
        have HT4 := Lib.hid (hT3.below hb4)
        have HW4 := Lib.hid (((HW1.out.keep (P := fun _ => False) (Keeps.of_below hbn) (fun _ _ h => h)).keep (P := fun _ => False) (Keeps.of_below hb3) (fun _ _ h => h)).keep (P := fun _ => False) (Keeps.of_below hb4) (fun _ _ h => h))
        have HSZ := Lib.hid (And.intro (And.intro hs2 (And.intro hs3 hs4)) (And.intro hS (And.intro hZl (Blk.lt hS4))))
        have HMZ : Hid (∀ k, (k = B ∨ x11.ownBlock = some k ∨ k = Z ∨ k = S) → ((((k = B ∨ x11.ownBlock = some k) ∨ wr.heap.size ≤ k ∧ k < W1.heap.size) ∨ W1.heap.size ≤ k ∧ k < W2.heap.size) ∨ W2.heap.size ≤ k ∧ k < W3.heap.size) ∨ W3.heap.size ≤ k ∧ k < W4.heap.size) := Lib.hid (fun k hk => by
          have hSl := Blk.lt hS4
          rcases hk with hk | hk | hk | hk
          · exact .inl (.inl (.inl (.inl (.inl hk))))
          · exact .inl (.inl (.inl (.inl (.inr hk))))
          · exact .inl (.inl (.inl (.inr ⟨by omega, by omega⟩)))
          · exact .inr ⟨by omega, by omega⟩)
        clear hcl4 hok4 hB4 hS4 hT3 hB2 y0 y1 y2 r0 r1 hb3 hb4 hbn z0 z1 z2
        go_wp2_with fail
        refine HCD.out.mono ?_
        rintro e W5 ⟨rfl, hst5⟩
        obtain ⟨P5, hK5, hP5⟩ := hst5.keep
        have hkeep : ∀ k, (k = B ∨ x11.ownBlock = some k ∨ k = Z ∨ k = S) → ¬ P5 k := fun k hk hp => hP5 k hp (HMZ.out k hk)
        have hB5 := blk_keep HB4.out hK5 (hkeep B (.inl rfl))
        have hS5 := blk_keep HS4.out hK5 (hkeep S (.inr (.inr (.inr rfl))))
        have hZ5 : W5.cell? ⟨Z, 0, none⟩ = some (.int .i64 kd) := (hK5.cell (p := ⟨Z, 0, none⟩) (by show Z < _; have := HSZ.out; omega) (hkeep Z (.inr (.inr (.inl rfl))))).trans x0
        have hT5 := HT4.out.keep hK5
        have hW5 := HW4.out.keep hK5 (fun k hk => hkeep k (.inr (.inl hk)))
        have hcl5 := hst5.cl.anti (M' := fun k => k = B ∨ x11.ownBlock = some k ∨ k = Z ∨ k = S) HMZ.out
        have s0 : W5.cell? ⟨S, 0, none⟩ = some (.int .u64 rf) := hS5.cell 0
        have s1 : W5.cell? ⟨S, 1, none⟩ = some (.slice sa sl sc) := hS5.cell 1
        obtain ⟨y, hy⟩ : ∃ y, doesS s st kd n1 l = y := ⟨_, rfl⟩
        rw [hy] at hcl5 HDP ⊢
        have HDD := Lib.hid (dl_dead hcl5.dl)
        have HC5 := Lib.hid hcl5
        have HB5 := Lib.hid hB5
        have HS5 := Lib.hid hS5
        have HT5 := Lib.hid hT5
        have HW5 := Lib.hid hW5
        clear hy hcl5 hB5 hS5 hT5 hW5 hK5 hP5 hkeep hst5 x0 x1 x2 hW4 hS
        obtain ⟨dd, hdd⟩ : ∃ dd, y.2.1.dead = dd := ⟨_, rfl⟩
        rw [hdd] at HDD
        go_wp2_with fail
        refine HDD.out.mono ?_
        rintro e W6 ⟨rfl, hw6⟩
        obtain rfl : W5 = W6 := hw6.symm
        cases dd with
        | true =>
          have hE : CutE (T + 1 + j + 1) y.2.1 (was ++ [(rf, rL)]) at_ := by
            rcases HDP.out with ⟨_, h⟩ | ⟨h, _⟩
            · exact h
            · rw [hdd] at h; cases h
          obtain ⟨B7, hB7⟩ : ∃ B7, W5.heap.size = B7 := ⟨_, rfl⟩
          obtain ⟨W6, hW6⟩ : ∃ W6, W5.alloc (.cells #[.int .u64 rf, .slice sa sl sc] 41) = W6 := ⟨_, rfl⟩
          have hb6 : Below W5.heap.size W5 W6 := by rw [← hW6]; exact (Below.refl _ _).alloc (Nat.le_refl _) _
          have hk6 : Blk W6 B7 41 #[.int .u64 rf, .slice sa sl sc] := by rw [← hW6, ← hB7]; exact Blk.alloc_new _ _ _
          obtain ⟨v7, W7, hrun, hW7, hK7, _⟩ := WRow.push W6 x11 was (HW5.out.keep (P := fun _ => False) (Keeps.of_below hb6) (fun _ _ h => h)) B7 (rf, rL) (.slice sa sl sc) (hk6.cell 0) (hk6.cell 1) (HT5.out.below hb6) (by have := HP.out.len; omega)
          have hcl7 := ((HC5.out.below hb6).grow hK7 (fun k hk => .inl (.inr (.inl hk))) (fun k hk => (HW5.out.keep (P := fun _ => False) (Keeps.of_below hb6) (fun _ _ h => h)).choose_spec.2.2.noU8 k hk)).dl
          have HEND := Lib.hid (show CutEnd w0 p (T + 1 + n) at_ (.returned (.tuple #[v7, .bool true])) W7 from ⟨v7, _, _, rfl, hW7, hcl7, hE.mono (by omega)⟩)
          have HRUN := Lib.hid hrun
          have HW6 := Lib.hid hW6
          clear hb6 hk6 hrun hW7 hK7 hcl7 hE hW6
          go_wp2_with (at_builtin; rw [HW6.out]; refine wpList_push64 _ (by rfl) _ _ 28 rfl x11 v7 W7 ⟨B7, 0, none⟩ 1 1 rfl rfl HRUN.out ?_)
          go_ret2
          exact HEND.out
        | false =>
          have hE : y.2.2 = rc ∧ (y.1.first, y.1.L) = (rf, rL) ∧ CutP (T + 1 + j + 1) y.1 y.2.1 (if kd = 1 then [(rf, rL)] else was ++ [(rf, rL)]) at_ := by
            rcases HDP.out with ⟨h, _⟩ | ⟨_, h⟩
            · rw [hdd] at h; cases h
            · exact h
          obtain ⟨hE1, hE2, hE3⟩ := hE
          rw [hE1]
          have hyf : y.1.first = rf := congrArg Prod.fst hE2
          have hyL : y.1.L = rL := congrArg Prod.snd hE2
          have HY := Lib.hid (And.intro hyf (And.intro hyL hE3))
          have k50 : W5.cell? ⟨B, 0, none⟩ = some (.int .u64 s.first) := HB5.out.cell 0
          have k51 : W5.cell? ⟨B, 1, none⟩ = some u := HB5.out.cell 1
          have hf0 := HB5.out.free 0
          have hf1 := HB5.out.free 1
          obtain ⟨W6, hW6⟩ : ∃ W6, (W5.setCell ⟨B, 0, none⟩ (.int .u64 rf)).setCell ⟨B, 1, none⟩ (.slice sa sl sc) = W6 := ⟨_, rfl⟩
          have hB6 : Blk W6 B 41 #[.int .u64 rf, .slice sa sl sc] := by rw [← hW6]; exact (HB5.out.set 0 _).set 1 _
          have hK6 : Keeps (fun k => k = B) W5 W6 := by rw [← hW6]; exact set_keeps (set_keeps (Keeps.refl _ _) rfl (StrRow.no_blk HB5.out (by decide))) rfl (StrRow.no_blk (HB5.out.set 0 _) (by decide))
          have hN6 : ∀ k, k = B → NoU8 W5 k := fun k hk => by
            rw [hk]
            obtain ⟨ua', uc', hu', _⟩ := HT1.out.form
            refine NoU8.of_blk HB5.out (fun z hz => ?_)
            rcases List.mem_cons.1 hz with rfl | hz
            · intro x e; cases e
            · rw [List.mem_singleton] at hz
              subst hz
              intro x e
              rw [hu'] at e
              cases e
          have hcl6 := HC5.out.grow hK6 (fun k hk => .inl hk) hN6
          have hne : ∀ k, x11.ownBlock = some k → ¬ k = B := fun k hk e => HNB.out (e ▸ hk)
          have hW6r := HW5.out.keep hK6 hne
          have hS6 := blk_keep HS5.out hK6 (fun e => by
            have := HSZ.out
            have := Blk.lt HB1.out
            omega)
          have hZ6 : W6.cell? ⟨Z, 0, none⟩ = some (.int .i64 kd) := (hK6.cell (p := ⟨Z, 0, none⟩) (World.block_lt_of_cell? W5 _ hZ5) (fun e => by
            have h1 := Blk.lt HB1.out
            have e : Z = B := e
            have := HSZ.out
            have h2 := HBK.out
            rw [e] at h2
            exact blk_ne HB1.out h2 (by decide) rfl)).trans hZ5
          have hT6 := HT5.out.keep hK6
          obtain ⟨B7, hB7⟩ : ∃ B7, W6.heap.size = B7 := ⟨_, rfl⟩
          obtain ⟨W7, hW7⟩ : ∃ W7, W6.alloc (.cells #[.int .u64 rf, .slice sa sl sc] 41) = W7 := ⟨_, rfl⟩
          have hb7 : Below W6.heap.size W6 W7 := by rw [← hW7]; exact (Below.refl _ _).alloc (Nat.le_refl _) _
          have hk7 : Blk W7 B7 41 #[.int .u64 rf, .slice sa sl sc] := by rw [← hW7, ← hB7]; exact Blk.alloc_new _ _ _
          have hW7r := hW6r.keep (P := fun _ => False) (Keeps.of_below hb7) (fun _ _ h => h)
          obtain ⟨v8, W8, hrun, hW8, hK8, hown8⟩ := WRow.push W7 x11 was hW7r B7 (rf, rL) (.slice sa sl sc) (hk7.cell 0) (hk7.cell 1) (hT6.below hb7) (by have := HP.out.len; omega)
          have hcl8 := (hcl6.below hb7).grow hK8 (fun k hk => .inl (.inl (.inr (.inl hk)))) (fun k hk => hW7r.choose_spec.2.2.noU8 k hk)
          have hB7' := Blk.below hB6 hb7 (Blk.lt hB6)
          have hB8 := blk_keep hB7' hK8 (fun h => HNB.out h)
          have hZ7 : W7.cell? ⟨Z, 0, none⟩ = some (.int .i64 kd) := (hb7.cell (p := ⟨Z, 0, none⟩) (World.block_lt_of_cell? W6 _ hZ6)).trans hZ6
          have hZ8 : W8.cell? ⟨Z, 0, none⟩ = some (.int .i64 kd) := (hK8.cell (p := ⟨Z, 0, none⟩) (World.block_lt_of_cell? W7 _ hZ7) (fun h => by
            obtain ⟨ps, _, _, hg⟩ := HW1.out
            obtain ⟨_, ⟨h1, _⟩ | ⟨b', cap, cur, h1, hbl, _⟩⟩ := hg
            · have h : x11.ownBlock = some Z := h
              rw [h1] at h; cases h
            · have h : x11.ownBlock = some Z := h
              rw [h1] at h
              have e : b' = Z := by cases h; rfl
              rw [e] at hbl
              exact blk_ne hbl HBK.out (by decide) rfl)).trans hZ7
          have hT8 := (hT6.below hb7).keep hK8
          have hs8 := hK8.size
          have hs7 := hb7.size
          have hs6 := hK6.size
          have hnb8 : ¬ v8.ownBlock = some B := fun h => by
            rcases hown8 B h with h1 | h1
            · exact HNB.out h1
            · have := Blk.lt hB7'; omega
          have q0 : W6.cell? ⟨B, 0, none⟩ = some (.int .u64 rf) := hB6.cell 0
          have q1 : W6.cell? ⟨B, 1, none⟩ = some (.slice sa sl sc) := hB6.cell 1
          have p0 : W8.cell? ⟨B, 0, none⟩ = some (.int .u64 rf) := hB8.cell 0
          have p1 : W8.cell? ⟨B, 1, none⟩ = some (.slice sa sl sc) := hB8.cell 1
          have HRUN := Lib.hid hrun
          have HC8 := Lib.hid hcl8
          have HB8 := Lib.hid hB8
          have HT8 := Lib.hid hT8
          have HW8 := Lib.hid hW8
          have HOWN := Lib.hid (And.intro hown8 hnb8)
          have HVL := Lib.hid (show ∀ k, v8.ownBlock = some k → k < W8.heap.size from fun k hk => hW8.choose_spec.2.2.lt k hk)
          have HW7 := Lib.hid hW7
          have hz7 : B < W7.heap.size := Blk.lt hB7'
          clear hrun hcl8 hB8 hT8 hW8 hown8 hnb8 hcl6 hW6r hS6 hT6 hb7 hk7 hW7r hK8 hB7' hK6 hN6 hne hB6 hE1 hE2 hE3 hyf hyL hZ6 hZ7 hW7 hs8 hs7 hs6
          go_wp2_with (at_builtin; rw [HW7.out]; refine wpList_push64 _ (by rfl) _ _ 28 rfl x11 v8 W8 ⟨B7, 0, none⟩ 1 1 rfl rfl HRUN.out ?_)
          · rename_i hk
            have hk1 : kd = 1 := by simpa using hk
            have hP9 := HY.out.2.2
            rw [if_pos hk1] at hP9
            obtain ⟨W9, hW9⟩ : ∃ W9, W8.alloc (.cells #[.int .u64 rf, .slice sa sl sc] 41) = W9 := ⟨_, rfl⟩
            have hb9 : Below W8.heap.size W8 W9 := by rw [← hW9]; exact (Below.refl _ _).alloc (Nat.le_refl _) _
            have hk9 : Blk W9 W8.heap.size 41 #[.int .u64 rf, .slice sa sl sc] := by rw [← hW9]; exact Blk.alloc_new _ _ _
            have hT9 := HT8.out.below hb9
            have hBl := Blk.lt HB8.out
            rw [hW9]
            refine HNX.out _ _ ⟨y.1, y.2.1, [(rf, rL)], .slice sa sl sc, (HC8.out.below hb9).anti (fun k hk => ?_), ?_, ?_, ?_, ?_, hP9⟩
            · rcases hk with hk | hk
              · exact .inl (.inl (.inl (.inl (.inl hk))))
              · have e : W8.heap.size = k := by cases hk; rfl
                subst e
                exact .inr ⟨Nat.le_refl _, Blk.lt hk9⟩
            · rw [HY.out.1]; exact Blk.below HB8.out hb9 hBl
            · rw [HY.out.2.1]; exact hT9
            · exact ⟨[((rf, rL), .slice sa sl sc)], rfl, (fun q hq => by rw [List.mem_singleton] at hq; rw [hq]; exact hT9), rfl, .inr ⟨W8.heap.size, 1, _, rfl, hk9, Nat.le_refl _, by unfold maxLen; decide, rfl, rfl, fun u hu => by
                rcases List.mem_cons.1 hu with rfl | hu
                · intro x e; cases e
                · rw [List.mem_singleton] at hu
                  subst hu
                  intro x e; cases e⟩⟩
            · intro h
              have e : W8.heap.size = B := by cases h; rfl
              omega
          · rename_i hk
            have hk1 : ¬ kd = 1 := by simpa using hk
            have hP9 := HY.out.2.2
            rw [if_neg hk1] at hP9
            refine HNX.out _ _ ⟨y.1, y.2.1, was ++ [(rf, rL)], .slice sa sl sc, HC8.out.anti (fun k hk => ?_), ?_, ?_, HW8.out, HOWN.out.2, hP9⟩
            · rcases hk with hk | hk
              · exact .inl (.inl (.inl (.inl hk)))
              · rcases HOWN.out.1 k hk with h1 | h1
                · exact .inl (.inl (.inl (.inr (.inl h1))))
                · exact .inr ⟨h1, HVL.out k hk⟩
            · rw [HY.out.1]; exact HB8.out
            · rw [HY.out.2.1]; exact HT8.out
    · have hje : j = n := by omega
      subst hje
      obtain ⟨s, st, was, u, hcl, hB, hT, hW, hnb, hP⟩ := HJ.out
      have hdl := hcl.dl
      have HEND := Lib.hid (show CutEnd w0 p (T + 1 + j) at_ (.returned (.tuple #[x11, .bool true])) wr from ⟨_, was, st, rfl, hW, hdl, hP.ends⟩)
      clear HJ hcl hB hT hW hnb hP hdl
      go_wp2_with fail
      go_ret2
      exact HEND.out
end Go.Proofs.YtcpkpljeimbdiaaGreat.W
