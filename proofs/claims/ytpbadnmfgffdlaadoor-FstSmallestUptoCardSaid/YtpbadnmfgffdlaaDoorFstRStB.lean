/-
  The loop of the document's state: what holds ahead of each round.
-/
import Derived.Test.YtpbadnmfgffdlaaDoorFstRStA
namespace Go.Proofs.YtpbadnmfgffdlaaDoor.F
open Go.RowKit Go.Shelf Go.Maps
open Aid L LM
set_option linter.unusedSimpArgs false
set_option linter.unusedVariables false

theorem rstate_len : ∀ (n : Nat) (k : KM) (l : List Rw), RwOk n l → l ≠ [] → (rstate n k l).1.R.length ≤ k.R.length + tot l + 1 ∧ (rstate n k l).1.S.length ≤ k.S.length + tot l + 1 := by
  intro n
  induction n with
  | zero => intro k l _ _; exact ⟨by simp [rstate]; omega, by simp [rstate]; omega⟩
  | succ n ih =>
    intro k l hok hne
    have key : ∀ (m : Nat) (k : KM) (l : List Rw), RwOk (n + 1) l → (∀ y ∈ l, y.1 ≠ []) → (rarcs (rstate n) m k l).2.R.length ≤ k.R.length + tot l ∧ (rarcs (rstate n) m k l).2.S.length ≤ k.S.length + tot l := by
      intro m
      induction m with
      | zero => intro k l _ _; exact ⟨by simp [rarcs], by simp [rarcs]⟩
      | succ m ihm =>
        intro k l hl hne
        cases l with
        | nil => exact ⟨by simp [rarcs], by simp [rarcs]⟩
        | cons x l =>
          have hun := under_ne (l := l) (hne x (List.mem_cons_self))
          obtain ⟨h1, h1'⟩ := ih k (under (x.1.headD 0) (x :: l)) (hl.under _) hun
          obtain ⟨h2, h2'⟩ := ihm (rstate n k (under (x.1.headD 0) (x :: l))).1 (after (x.1.headD 0) (x :: l)) (hl.after _) (fun y hy => hne y (after_mem hy))
          have h3 := tot_under (x.1.headD 0) (x :: l)
          have h4 : 0 < (under (x.1.headD 0) (x :: l)).length := List.length_pos_iff.2 hun
          show (rarcs (rstate n) m (rstate n k (under (x.1.headD 0) (x :: l))).1 (after (x.1.headD 0) (x :: l))).2.R.length ≤ _ ∧ (rarcs (rstate n) m (rstate n k (under (x.1.headD 0) (x :: l))).1 (after (x.1.headD 0) (x :: l))).2.S.length ≤ _
          omega
    have hok1 := hok.level hne
    obtain ⟨b1, b2⟩ := hok1.body
    obtain ⟨h1, h1'⟩ := key (body (levelW l)).length k (body (levelW l)) b1 b2
    have h2 := (tot_body (levelW l)).1
    have h3 : ∀ (d : Int) (l : List Rw), tot (l.map fun x => (x.1, x.2 - d)) = tot l := fun d l => by
      induction l with
      | nil => rfl
      | cons x l ih => show x.1.length + tot (l.map fun x => (x.1, x.2 - d)) = x.1.length + tot l; rw [ih]
    have h3 : tot (levelW l) = tot l := h3 _ l
    unfold rstate
    split
    · exact ⟨by dsimp only; omega, by dsimp only; omega⟩
    · dsimp only
      rw [List.length_append, List.length_append]
      simp only [List.length_cons, List.length_nil]
      omega
def REnd (vR vS : Value) (r : KM × Nat) (F : Nat → Prop) (w : World) (e : Ending) (w' : World) : Prop :=
  ∃ vR' vS', e = .returned (.tuple #[.agg #[vR', vS'], .int .i64 (r.2 : Nat)]) ∧ (∃ LR qS, Kis w' vR' vS' r.1 F LR qS) ∧ Turn (Ko vR vS) w w' ∧ ∀ x, x < w.heap.size → Ko vR' vS' x → Ko vR vS x
theorem rw_level (q : List RS) (lo : Int) (h : leastF (q.map (·.wt)) = lo) : rw (levelRS lo q) = levelW (rw q) := by
  unfold rw levelRS levelW low
  rw [List.map_map, List.map_map]
  have e : leastF (List.map (fun x => x.2) (List.map (fun x : RS => (x.r, x.wt)) q)) = lo := by rw [List.map_map]; exact h
  rw [e]
  rfl
theorem rstate_idx (n : Nat) (k : KM) (l : List Rw) (hok : RwOk n l) (hne : l ≠ []) : (rstate n k l).2 ≤ k.R.length + k.S.length + tot l := by
  have h := (rstate_len n k l hok hne).2
  cases n with
  | zero => simp [rstate]
  | succ n =>
    unfold rstate at h ⊢
    cases e : k.R.findIdx? (fun x => decide (x = levelW l)) with
    | some i =>
      have := (List.findIdx?_eq_some_iff_getElem.1 e).1
      dsimp only
      omega
    | none =>
      rw [e] at h
      dsimp only at h ⊢
      rw [List.length_append] at h
      simp only [List.length_cons, List.length_nil] at h
      omega
def Fine (n : Nat) (L : List Rw) (f : List Int) : Prop := ∀ c ∈ f, RwOk n (underA c L) ∧ underA c L ≠ [] ∧ 0 ≤ c ∧ c ≤ 1114111
def need (L : List Rw) : List Int → Nat
  | [] => 0
  | c :: f => tot (underA c L) + 1 + need L f
theorem fine_hs {n : Nat} (L : List Rw) : ∀ (m : Nat) (b : List Rw), RwOk (n + 1) b → (∀ y ∈ b, y.1 ≠ []) → (∀ c ∈ hsF m b, underA c L = underA c b) → Fine n L (hsF m b) ∧ need L (hsF m b) ≤ tot b := by
  intro m
  induction m with
  | zero => intro b _ _ _; exact ⟨fun c hc => by simp [hsF] at hc, by simp [hsF, need]⟩
  | succ m ih =>
    intro b hok hne hu
    cases b with
    | nil => exact ⟨fun c hc => by simp [hsF] at hc, by simp [hsF, need]⟩
    | cons x b =>
      have hh : hsF (m + 1) (x :: b) = x.1.headD 0 :: hsF m (after (x.1.headD 0) (x :: b)) := rfl
      rw [hh] at hu ⊢
      have h1 := hu _ (List.mem_cons_self)
      rw [underA_here hok hne] at h1
      have hgt := after_gt hok hne
      have hun := under_ne (l := b) (hne x (List.mem_cons_self))
      obtain ⟨i1, i2⟩ := ih (after (x.1.headD 0) (x :: b)) (hok.after _) (fun y hy => hne y (after_mem hy)) (fun c hc => by
        rw [hu c (List.mem_cons_of_mem _ hc)]
        refine underA_later hok hne (fun e => ?_)
        obtain ⟨y, hy, e'⟩ := hs_gt m _ (hok.after _) (fun y hy => hne y (after_mem hy)) c hc
        have := hgt y hy
        omega)
      have h3 := tot_under (x.1.headD 0) (x :: b)
      have h4 := List.length_pos_iff.2 hun
      have hx := hne x (List.mem_cons_self)
      have hc : 0 ≤ x.1.headD 0 ∧ x.1.headD 0 ≤ 1114111 := hok.runes x (List.mem_cons_self) _ (by cases hx1 : x.1 with | nil => exact absurd hx1 hx | cons a t => simp)
      refine ⟨fun c hcm => ?_, ?_⟩
      · rcases List.mem_cons.1 hcm with rfl | hcm
        · exact ⟨by rw [h1]; exact hok.under _, by rw [h1]; exact hun, hc⟩
        · exact i1 c hcm
      · show tot (underA (x.1.headD 0) L) + 1 + need L (hsF m (after (x.1.headD 0) (x :: b))) ≤ _
        rw [h1]
        omega
theorem fine_firsts {n : Nat} {l : List Rw} (hok : RwOk (n + 1) l) : Fine n l (firstsF l) ∧ need l (firstsF l) ≤ tot l := by
  obtain ⟨b1, b2⟩ := hok.body
  rw [firstsF_hs hok]
  have ht := (tot_body l).1
  obtain ⟨h1, h2⟩ := fine_hs l (body l).length (body l) b1 b2 (fun c hc => by
    unfold body
    split
    · rename_i h
      cases l with
      | nil => rfl
      | cons x l =>
        have hx : x.1 = [] := by simpa [isFin] using h
        show underA c ([x] ++ l) = underA c l
        rw [underA_append, underA_none (l := [x]) (fun y hy => by
          simp only [List.mem_singleton] at hy
          subst hy
          rw [hx]; simp), List.nil_append]
    · rfl)
  exact ⟨h1, by omega⟩
def LoopG (F : Nat → Prop) (Q sB : Nat) (u : Value) : Nat → Prop := fun x => F x ∨ x = Q ∨ x = Q + 1 ∨ x = sB ∨ u.ownBlock = some x
def LoopT (vR vS : Value) (Q sB : Nat) : Nat → Prop := fun x => Ko vR vS x ∨ x = Q ∨ x = sB
structure RL (n : Nat) (l : List Rw) (W4 : World) (vR vS : Value) (F : Nat → Prop) (Q sB : Nat) (fin : Bool) (out : Int) (RR : List ArcM × KM) (N : Nat) (W : World) (k : KM) (vR' vS' : Value) (f : List Int) (A : List ArcM) (u : Value) : Prop where
  known : ∃ LR qS, Kis W vR' vS' k (LoopG F Q sB u) LR qS
  res : (A ++ (goR (rstate n) l k f).1, (goR (rstate n) l k f).2) = RR
  fine : Fine n l f
  boxK : Blk W Q 76 #[vR', vS']
  boxZ : Blk W (Q + 1) 76 #[.slice none 0 0, .slice none 0 0]
  boxS : Blk W sB 43 #[.bool fin, .int .i64 out, u]
  row : W.ownsRow W4.heap.size 46 3 u A.length (rowA A)
  turn : Turn (LoopT vR vS Q sB) W4 W
  old : ∀ x, x < W4.heap.size → Ko vR' vS' x → Ko vR vS x
  far : ∀ x, (x = Q ∨ x = Q + 1 ∨ x = sB ∨ u.ownBlock = some x) → ¬ Ko vR' vS' x
  at_ : Q + 1 < sB ∧ sB < W4.heap.size
  cR : k.R.length + need l f ≤ N
  cS : k.S.length + need l f ≤ N
  arcs : ∀ a ∈ A, ArcOk a
  few : A.length + f.length ≤ 4096
theorem RL.mid {n : Nat} {l : List Rw} {W4 : World} {vR vS : Value} {F : Nat → Prop} {Q sB : Nat} {fin : Bool} {out : Int} {RR : List ArcM × KM} {N : Nat} {W : World} {k : KM} {vR' vS' : Value} {f : List Int} {A : List ArcM} {u : Value}
    (hL : RL n l W4 vR vS F Q sB fin out RR N W k vR' vS' f A u) {W0 W2 : World} (hb0 : Below W.heap.size W W0) (hT : Turn (Ko vR' vS') W0 W2) {Wb : World} (hbb : Below W2.heap.size W2 Wb) :
    Blk Wb Q 76 #[vR', vS'] ∧ ∀ (vR2 vS2 : Value) (Wd : World), Below ((Wb.setCell ⟨Q, 0, none⟩ vR2).setCell ⟨Q, 1, none⟩ vS2).heap.size ((Wb.setCell ⟨Q, 0, none⟩ vR2).setCell ⟨Q, 1, none⟩ vS2) Wd →
      Wd.ownsRow W4.heap.size 46 3 u A.length (rowA A) ∧ Blk Wd sB 43 #[.bool fin, .int .i64 out, u] ∧ W4.heap.size ≤ Wd.heap.size ∧ Wb.heap.size ≤ Wd.heap.size := by
  obtain ⟨a1, a2⟩ := hL.at_
  have hu : ∀ y, u.ownBlock = some y → W4.heap.size ≤ y ∧ y < W.heap.size := fun y hy => ⟨owns_base hL.row y hy, (hL.row.lt y hy).2⟩
  have z1 := hL.turn.size
  have z2 := hb0.size
  have z3 := hT.size
  have z4 := hbb.size
  have hW2 : ∀ x, x < W.heap.size → ¬ Ko vR' vS' x → Wb.heap[x]? = W.heap[x]? := fun x hx hn => (hbb.block x (by omega)).trans ((hT.kept x (by omega) hn).trans (hb0.block x hx))
  refine ⟨(hW2 Q (by omega) (hL.far Q (.inl rfl))).trans hL.boxK, fun vR2 vS2 Wd hbd => ?_⟩
  have z5 : Wb.heap.size ≤ Wd.heap.size := by have := hbd.size; simpa using this
  have hWd : ∀ x, x < W.heap.size → x ≠ Q → ¬ Ko vR' vS' x → Wd.heap[x]? = W.heap[x]? := fun x hx hq hn => by
    rw [hbd.block x (by simp; omega), show ((Wb.setCell ⟨Q, 0, none⟩ vR2).setCell ⟨Q, 1, none⟩ vS2).heap[x]? = (Wb.setCell ⟨Q, 0, none⟩ vR2).heap[x]? from Below.heap_setCell _ _ _ _ (fun e => hq e), show (Wb.setCell ⟨Q, 0, none⟩ vR2).heap[x]? = Wb.heap[x]? from Below.heap_setCell _ _ _ _ (fun e => hq e)]
    exact hW2 x hx hn
  exact ⟨owns_kept hL.row (fun y hy => hWd y (hu y hy).2 (by have := (hu y hy).1; omega) (hL.far y (.inr (.inr (.inr hy))))), (hWd sB (by omega) (by omega) (hL.far sB (.inr (.inr (.inl rfl))))).trans hL.boxS, by omega, z5⟩
/-- what does not lie in the loop's blocks stays -/
theorem RL.rests {n : Nat} {l : List Rw} {W4 : World} {vR vS : Value} {F : Nat → Prop} {Q sB : Nat} {fin : Bool} {out : Int} {RR : List ArcM × KM} {N : Nat} {W : World} {k : KM} {vR' vS' : Value} {f : List Int} {A : List ArcM} {u : Value}
    (hL : RL n l W4 vR vS F Q sB fin out RR N W k vR' vS' f A u) {v : Value} {q : List RS} (h : RestsAre (fun x => KoF vR vS F x ∨ x = Q ∨ x = Q + 1 ∨ x = sB) W4 v q) : RestsAre (KoF vR' vS' (LoopG F Q sB u)) W v q :=
  (h.turn (hL.turn.more (fun x _ hx => by
    rcases hx with h | h | h
    · exact .inl (.inl h)
    · exact .inr (.inl h)
    · exact .inr (.inr (.inr h)))) (O' := fun x => KoF vR vS F x ∨ x = Q ∨ x = Q + 1 ∨ x = sB ∨ W4.heap.size ≤ x) (fun x hx g => by
    rcases g with g | g | g | g | g
    · exact .inl g
    · exact .inr (.inl g)
    · exact .inr (.inr (.inl g))
    · exact .inr (.inr (.inr g))
    · omega)).less (fun x _ g => by
    rcases g with g | g | g | g | g | g
    · rcases Nat.lt_or_ge x W4.heap.size with hx | hx
      · exact .inl (.inl (hL.old x hx g))
      · exact .inr (.inr (.inr (.inr hx)))
    · exact .inl (.inr g)
    · exact .inr (.inl g)
    · exact .inr (.inr (.inl g))
    · exact .inr (.inr (.inr (.inl g)))
    · exact .inr (.inr (.inr (.inr (owns_base hL.row x g)))))
theorem RL.lt {n : Nat} {l : List Rw} {W4 : World} {vR vS : Value} {F : Nat → Prop} {Q sB : Nat} {fin : Bool} {out : Int} {RR : List ArcM × KM} {N : Nat} {W : World} {k : KM} {vR' vS' : Value} {f : List Int} {A : List ArcM} {u : Value}
    (hL : RL n l W4 vR vS F Q sB fin out RR N W k vR' vS' f A u) (hF : ∀ x, F x → x < Q) : ∀ x, KoF vR' vS' (LoopG F Q sB u) x → x < W.heap.size := fun x hx => by
  obtain ⟨a1, a2⟩ := hL.at_
  have z1 := hL.turn.size
  obtain ⟨LR, qS, hK⟩ := hL.known
  rcases hx with g | g | g | g | g | g
  · exact hK.lt g
  · have := hF x g; omega
  · omega
  · omega
  · omega
  · exact (hL.row.lt x g).2
theorem RL.next {n : Nat} {l : List Rw} {W4 : World} {vR vS : Value} {F : Nat → Prop} {Q sB : Nat} {fin : Bool} {out : Int} {RR : List ArcM × KM} {N : Nat} {W : World} {k : KM} {vR' vS' : Value} {c : Int} {f : List Int} {A : List ArcM} {u : Value}
    (hL : RL n l W4 vR vS F Q sB fin out RR N W k vR' vS' (c :: f) A u) (hN : N ≤ 1000000) (hF : ∀ x, F x → x < Q)
    {k2 : KM} {t2 : Nat} (hst : rstate n k (underA c l) = (k2, t2)) {W0 W2 : World} {vR2 vS2 : Value} (hb0 : Below W.heap.size W W0) (hK2 : ∃ LR qS, Kis W2 vR2 vS2 k2 (LoopG F Q sB u) LR qS) (hT : Turn (Ko vR' vS') W0 W2) (ho : ∀ x, x < W0.heap.size → Ko vR2 vS2 x → Ko vR' vS' x)
    {Wb : World} (hbb : Below W2.heap.size W2 Wb) {Wd : World} (hbd : Below ((Wb.setCell ⟨Q, 0, none⟩ vR2).setCell ⟨Q, 1, none⟩ vS2).heap.size ((Wb.setCell ⟨Q, 0, none⟩ vR2).setCell ⟨Q, 1, none⟩ vS2) Wd)
    {a : ArcM} (ha : a = ⟨c, low (underA c l), (t2 : Nat)⟩) {We : World} {u5 : Value} (own : We.ownsRow W4.heap.size 46 3 u5 (A.length + 1) (rowA A ++ (arcV a).toList)) (grow : Wd.grownBy We u.ownBlock) (new : u5.ownBlock = u.ownBlock ∨ u5.ownBlock = some Wd.heap.size) :
    RL n l W4 vR vS F Q sB fin out RR N (We.setCell ⟨sB, 2, none⟩ u5) k2 vR2 vS2 f (A ++ [a]) u5 := by
  obtain ⟨a1, a2⟩ := hL.at_
  obtain ⟨f1, f2, f3, f4⟩ := hL.fine c (List.mem_cons_self)
  have hu : ∀ y, u.ownBlock = some y → W4.heap.size ≤ y ∧ y < W.heap.size := fun y hy => ⟨owns_base hL.row y hy, (hL.row.lt y hy).2⟩
  have z1 := hL.turn.size
  have z2 := hb0.size
  have z3 := hT.size
  have z4 := hbb.size
  have z5 : Wb.heap.size ≤ Wd.heap.size := by have := hbd.size; simpa using this
  have z6 := grow.size
  -- from W0 on, one turn
  have t1 : Turn (fun y => y = Q) W2 ((Wb.setCell ⟨Q, 0, none⟩ vR2).setCell ⟨Q, 1, none⟩ vS2) := by
    refine ⟨by simp; omega, hbb.os, hbb.tape, hbb.output, fun y hy hn => ?_⟩
    rw [show ((Wb.setCell ⟨Q, 0, none⟩ vR2).setCell ⟨Q, 1, none⟩ vS2).heap[y]? = (Wb.setCell ⟨Q, 0, none⟩ vR2).heap[y]? from Below.heap_setCell _ _ _ _ (fun e => hn e), show (Wb.setCell ⟨Q, 0, none⟩ vR2).heap[y]? = Wb.heap[y]? from Below.heap_setCell _ _ _ _ (fun e => hn e)]
    exact hbb.block y hy
  have t2' : Turn (fun y => y = Q) W2 Wd := t1.trans (Turn.of_below (O := fun _ => False) hbd) (fun _ _ h => h.elim)
  have t5 : Turn (fun y => y = Q ∨ y = sB ∨ u.ownBlock = some y) W2 (We.setCell ⟨sB, 2, none⟩ u5) := by
    refine ⟨by simp; omega, grow.os.trans t2'.os, grow.tape.trans t2'.tape, grow.output.trans t2'.output, fun y hy hn => ?_⟩
    rw [show (We.setCell ⟨sB, 2, none⟩ u5).heap[y]? = We.heap[y]? from Below.heap_setCell _ _ _ _ (fun e => hn (.inr (.inl e))), grow.block y (by omega) (fun e => hn (.inr (.inr e.symm)))]
    exact t2'.kept y hy (fun e => hn (.inl e))
  have farW : ∀ x, (x = Q ∨ x = Q + 1 ∨ x = sB ∨ u.ownBlock = some x) → x < W0.heap.size := fun x hx => by
    rcases hx with h | h | h | h
    · omega
    · omega
    · omega
    · have := hu x h; omega
  have far2 : ∀ x, (x = Q ∨ x = Q + 1 ∨ x = sB ∨ u.ownBlock = some x) → ¬ Ko vR2 vS2 x := fun x hx h => hL.far x hx (ho x (farW x hx) h)
  have ko2 : ∀ x, Ko vR2 vS2 x → x < W2.heap.size := fun x hx => by obtain ⟨_, _, h⟩ := hK2; exact h.lt hx
  have hW2 : ∀ x, x < W.heap.size → ¬ Ko vR' vS' x → W2.heap[x]? = W.heap[x]? := fun x hx hn => (hT.kept x (by omega) hn).trans (hb0.block x hx)
  refine ⟨?_, ?_, fun d hd => hL.fine d (List.mem_cons_of_mem _ hd), ?_, ?_, ?_, ?_, ?_, fun x hx h => hL.old x hx (ho x (by omega) h), fun x hx => ?_, hL.at_, ?_, ?_, ?_, ?_⟩
  · obtain ⟨LR, qS, h⟩ := hK2
    refine ⟨LR, qS, h.turn2 t5 (fun y hy g => ?_) (fun y hy g => ?_)⟩
    · rcases g with g | g | g
      · exact ⟨.inr (.inl g), far2 y (.inl g)⟩
      · exact ⟨.inr (.inr (.inr (.inl g))), far2 y (.inr (.inr (.inl g)))⟩
      · exact ⟨.inr (.inr (.inr (.inr g))), far2 y (.inr (.inr (.inr g)))⟩
    · rcases g with g | g | g | g | g
      · exact .inl g
      · exact .inr (.inl g)
      · exact .inr (.inr (.inl g))
      · exact .inr (.inr (.inr (.inl g)))
      · rcases new with e | e
        · exact .inr (.inr (.inr (.inr (e ▸ g))))
        · rw [e] at g; cases g; omega
  · have := hL.res
    rw [← this]
    show (A ++ [a] ++ (goR (rstate n) l k2 f).1, _) = (A ++ (⟨c, low (underA c l), ((rstate n k (underA c l)).2 : Nat)⟩ :: (goR (rstate n) l (rstate n k (underA c l)).1 f).1), (goR (rstate n) l (rstate n k (underA c l)).1 f).2)
    rw [hst, ha]
    simp
  · -- the box of what is known
    have h1 : Blk W2 Q 76 #[vR', vS'] := (hW2 Q (by omega) (hL.far Q (.inl rfl))).trans hL.boxK
    have h2 : Blk Wb Q 76 #[vR', vS'] := h1.below hbb h1.lt
    have h3 : Blk ((Wb.setCell ⟨Q, 0, none⟩ vR2).setCell ⟨Q, 1, none⟩ vS2) Q 76 #[vR2, vS2] := (h2.set 0 vR2).set 1 vS2
    have h4 : Blk Wd Q 76 #[vR2, vS2] := h3.below hbd h3.lt
    have h5 : Blk We Q 76 #[vR2, vS2] := (grow.block Q (by omega) (fun e => by have := (hu Q e.symm).1; omega)).trans h4
    exact (show _ = _ from Below.heap_setCell _ _ _ _ (fun e => by have e' : Q = sB := e; omega)).trans h5
  · have h1 : Blk W2 (Q + 1) 76 #[.slice none 0 0, .slice none 0 0] := (hW2 (Q + 1) (by omega) (hL.far (Q + 1) (.inr (.inl rfl)))).trans hL.boxZ
    exact (t5.kept (Q + 1) h1.lt (fun h => by
      rcases h with h | h | h
      · omega
      · omega
      · have := (hu _ h).1; omega)).trans h1
  · have h1 : Blk W2 sB 43 #[.bool fin, .int .i64 out, u] := (hW2 sB (by omega) (hL.far sB (.inr (.inr (.inl rfl))))).trans hL.boxS
    have h4 : Blk Wd sB 43 #[.bool fin, .int .i64 out, u] := (t2'.kept sB h1.lt (fun e => by omega)).trans h1
    have h5 : Blk We sB 43 #[.bool fin, .int .i64 out, u] := (grow.block sB (by omega) (fun e => by have := (hu sB e.symm).1; omega)).trans h4
    exact h5.set 2 u5
  · rw [rowA_snoc, List.length_append]
    exact owns_kept own (fun y hy => Below.heap_setCell _ _ _ _ (fun e => by have := owns_base own y hy; have e' : y = sB := e; omega))
  · refine ⟨by have := t5.size; omega, t5.os.trans (hT.os.trans (hb0.os.trans hL.turn.os)), t5.tape.trans (hT.tape.trans (hb0.tape.trans hL.turn.tape)), t5.output.trans (hT.output.trans (hb0.output.trans hL.turn.output)), fun y hy hn => ?_⟩
    rw [t5.kept y (by omega) (fun h => ?_), hW2 y (by omega) (fun h => hn (.inl (hL.old y hy h)))]
    · exact hL.turn.kept y hy hn
    · rcases h with h | h | h
      · exact hn (.inr (.inl h))
      · exact hn (.inr (.inr h))
      · have := (hu y h).1; omega
  · rcases hx with h | h | h | h
    · exact far2 x (.inl h)
    · exact far2 x (.inr (.inl h))
    · exact far2 x (.inr (.inr (.inl h)))
    · rcases new with e | e
      · exact far2 x (.inr (.inr (.inr (e ▸ h))))
      · intro hk
        have := ko2 x hk
        rw [e] at h; cases h; omega
  · have h1 := hL.cR
    have h2 := (rstate_len n k (underA c l) f1 f2).1
    rw [hst] at h2
    have h3 : need l (c :: f) = tot (underA c l) + 1 + need l f := rfl
    dsimp only at h2
    omega
  · have h1 := hL.cS
    have h2 := (rstate_len n k (underA c l) f1 f2).2
    rw [hst] at h2
    have h3 : need l (c :: f) = tot (underA c l) + 1 + need l f := rfl
    dsimp only at h2
    omega
  · intro y hy
    rcases List.mem_append.1 hy with hy | hy
    · exact hL.arcs y hy
    · simp only [List.mem_singleton] at hy
      subst hy
      have h1 := rstate_idx n k (underA c l) f1 f2
      rw [hst] at h1
      have h2 := hL.cR
      have h3 := hL.cS
      have h4 : need l (c :: f) = tot (underA c l) + 1 + need l f := rfl
      have hlow : 0 ≤ low (underA c l) ∧ low (underA c l) ≤ 1048576 := by
        obtain ⟨y, hy, e⟩ := low_mem f2
        rw [e]; exact f1.wt y hy
      dsimp only at h1
      rw [ha]
      exact ⟨(i64_iff _).2 (by dsimp only; omega), (i64_iff _).2 (by dsimp only; omega), (i64_iff _).2 (by dsimp only; omega), (i32_iff _).2 (by dsimp only; omega)⟩
  · have := hL.few
    rw [List.length_append]
    simp only [List.length_cons, List.length_nil] at this ⊢
    omega
end Go.Proofs.YtpbadnmfgffdlaaDoor.F
