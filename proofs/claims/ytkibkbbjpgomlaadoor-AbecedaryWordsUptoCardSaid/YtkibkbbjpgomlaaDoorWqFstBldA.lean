/-
  FstBldA.
-/
import Derived.Test.YtkibkbbjpgomlaaDoorWqFstMach
import Derived.Test.YtkibkbbjpgomlaaDoorWqFstState
import Derived.Test.YtkibkbbjpgomlaaDoorWqA
import Derived.Deep.RegionHeld3
import Derived.BigQuiet
namespace Go.Proofs.YtkibkbbjpgomlaaDoor.F
open Go.RowKit Go.Shelf Go.Maps
open Aid L LM
set_option linter.unusedSimpArgs false
set_option linter.unusedVariables false
attribute [local go_sem] Oper.semAt_some

def BuildIs (w : World) (l : List Wd) (e : Ending) (w' : World) : Prop :=
  ∃ sv, e = .returned (.tuple #[.agg #[.int .i64 (buildF l).1.1, sv], .int .i64 (buildF l).2]) ∧ StatesAre (fun _ => False) w' sv (buildF l).1.2 ∧ Below w.heap.size w w'
/-- the same, the states in new blocks -/
def BuildNew (w : World) (l : List Wd) (e : Ending) (w' : World) : Prop :=
  ∃ sv, e = .returned (.tuple #[.agg #[.int .i64 (buildF l).1.1, sv], .int .i64 (buildF l).2]) ∧ StatesAre (fun x => x < w.heap.size) w' sv (buildF l).1.2 ∧ Below w.heap.size w w'
theorem BuildNew.is {w : World} {l : List Wd} {e : Ending} {w' : World} (h : BuildNew w l e w') : BuildIs w l e w' := by
  obtain ⟨sv, h1, h2, h3⟩ := h
  exact ⟨sv, h1, h2.turn (Turn.refl _ _) (fun _ _ h => h.elim), h3⟩
theorem results_cellT {P : Program} {fn : Func} {p u : Tmp} {ty : TypeId} (h : fn.results = #[.cell p ty, .tmp u]) (tmps : Array Value) (w : World) (g : Nat) (hp : tmps.getD p undef = .pointer (some ⟨g, 0, none⟩)) (b : Value) (hu2 : tmps.getD u undef = b)
    (T : TypeId) (vs : Array Value) (hb : Blk w g T vs) (d : TypeDesc) (hu : P.underlying ty = some d) (hd : aggD d = true) (hi : (P.info? ty).map (·.size) = some vs.size) :
    (results fn tmps).run P w = .ok (.tuple #[.agg vs, b]) w := by
  rw [results_cell_tmp h, hu2]
  rw [hp]
  simp [asAddr, Result.andThen, run_loadVar_cells w ty d hu hd g 0 vs hi hb.cells]
theorem size_mach : (Tryd.prog.info? 25).map (·.size) = some 2 := by kernel_rfl
/-- how a refusal ends -/
theorem refused {w W : World} {l : List Wd} {n : Int} (he : buildE l = n) (hn : n ≠ 0) (hb : Below w.heap.size w W) : BuildNew w l (.returned (.tuple #[.agg #[.int .i64 0, .slice none 0 0], .int .i64 n])) W := by
  have h : buildF l = ((0, []), n) := by unfold buildF; rw [if_neg (by rw [he]; exact hn), he]
  exact ⟨_, by rw [h], by rw [h]; exact StatesAre.nil _ _, hb⟩
theorem runes_uni (s : ByteArray) (w : World) (hs : (s.size : Int) ≤ 35184372088832) (T : Tab w) : Calls Tryd.prog 11 #[.string s] w fun e w' =>
    ∃ rv rb, e = .returned (.tuple #[rv, .bool rb]) ∧ Below w.heap.size w w' ∧ (wordB s = true → w'.ownsRow w.heap.size 21 1 rv (runesOf s).length ((runesOf s).map (.int .i32))) ∧ ∃ a n c, rv = .slice a n c := by
  refine (runes_any s w (by omega) (fits_small (by omega)) T).mono ?_
  rintro e w' ⟨hb, ⟨h1, rfl⟩ | ⟨l, v, h1, rfl, h2⟩⟩
  · exact ⟨_, _, rfl, hb, (fun h => by rw [wordB_none h1] at h; cases h), _, _, _, rfl⟩
  · have e : runesOf s = l := by unfold runesOf; rw [h1]; rfl
    obtain ⟨a, c, hv⟩ := owns_shape h2
    exact ⟨_, _, rfl, hb, (fun _ => by rw [e]; exact h2), a, _, c, hv⟩
theorem Blk.set2 {W : World} {g : Nat} {t : TypeId} {x y a b : Value} (h : Blk W g t #[x, y]) : Blk ((W.setCell ⟨g, 0, none⟩ a).setCell ⟨g, 1, none⟩ b) g t #[a, b] := (h.set 0 a).set 1 b
theorem below_set {B g : Nat} {w W : World} {j : Nat} {v : Value} (h : Below B w W) (hg : B ≤ g) : Below B w (W.setCell ⟨g, j, none⟩ v) := h.setCell (p := ⟨g, j, none⟩) hg v
theorem ints_own {O : Nat → Prop} {w : World} {base : Nat} {k : IntKind} {t : TypeId} {v : Value} {l : List Int} (h : w.ownsRow base t 1 v l.length (l.map (.int k))) (hl : l.length ≤ 140737488355328) (hO : ∀ g, v.ownBlock = some g → ¬ O g) : IntsC O w k v l := by
  rcases h.2 with ⟨rfl, hn⟩ | ⟨g, cap, cur, rfl, hb, hg, hnc, hcm, hcs, htake⟩
  · have : l = [] := List.eq_nil_of_length_eq_zero (by simpa using hn)
    subst this
    exact ⟨none, 0, rfl, by simp, by simp, (fun _ _ => rfl), fun j hj => by simp at hj⟩
  · refine ⟨_, cap, rfl, hnc, hl, (fun _ e => by cases e), fun j hj => ⟨g, 0, rfl, (Array.getElem?_eq_some_iff.1 hg).1, hO g rfl, ?_⟩⟩
    have := h.cells (g := g) rfl j (.int k (l.getD j 0)) (by simp [List.getElem?_eq_getElem hj])
    rw [add_plain] at this
    rw [Nat.zero_add]
    exact this
/-- what holds ahead of each word -/
structure BL (W0 : World) (l : List Wd) (i : Nat) (q : List RS) (x4 : Value) (wr : World) : Prop where
  rests : rw q = restsF (l.take i)
  row : wr.ownsRow W0.heap.size 50 2 x4 q.length (rowR q)
  ints : ∀ y ∈ q, IntsC (fun g => x4.ownBlock = some g) wr .i32 y.u y.r
  err : errF none l = errF (lastO none (l.take i)) (l.drop i)
  below : Below W0.heap.size W0 wr
theorem BL.next {W0 wr W2 W5 w1 : World} {l : List Wd} {i : Nat} {q : List RS} {x4 rv v' : Value} {xs : ByteArray} {xw : Int} {o : Obj} {B1 : Nat} (h : BL W0 l i q x4 wr) (hx : l[i]? = some (xs, xw)) (hdr : l.drop i = (xs, xw) :: l.drop (i + 1)) (hok : okW (lastO none (l.take i)) (xs, xw))
    (hb2 : Below wr.heap.size wr W2) (hB1 : wr.heap.size ≤ B1) (hrv : W2.ownsRow B1 21 1 rv (runesOf xs).length ((runesOf xs).map (.int .i32))) (hb5 : Below W2.heap.size W2 W5)
    (hown : w1.ownsRow W0.heap.size 50 2 v' (q.length + 1) (rowR q ++ [rv, .int .i64 xw])) (hg : (W5.alloc o).grownBy w1 x4.ownBlock) (hat : v'.ownBlock = x4.ownBlock ∨ v'.ownBlock = some (W5.alloc o).heap.size) :
    BL W0 l (i + 1) (q ++ [⟨runesOf xs, xw, rv⟩]) v' w1 := by
  have hts := take_snoc hx
  have hz2 := hb2.size
  have hz5 := hb5.size
  have hz1 := hg.size
  have hz0 := h.below.size
  have e1 : (W5.alloc o).heap.size = W5.heap.size + 1 := by simp
  have hal : Below W5.heap.size W5 (W5.alloc o) := (Below.refl _ _).alloc (Nat.le_refl _) _
  have hbA : Below wr.heap.size wr (W5.alloc o) := (hb2.trans (hb5.mono hz2)).trans (hal.mono (by omega))
  have hb2A : Below W2.heap.size W2 (W5.alloc o) := hb5.trans (hal.mono hz5)
  have htA : ∀ {A : World}, Below A.heap.size A (W5.alloc o) → Turn (fun g => x4.ownBlock = some g) A w1 := fun {A} hb => ⟨Nat.le_trans hb.size hg.size, hg.os.trans hb.os, hg.tape.trans hb.tape, hg.output.trans hb.output, fun y hy hn => (hg.block y (Nat.lt_of_lt_of_le hy hb.size) (fun e => hn e.symm)).trans (hb.block y hy)⟩
  have hlen : (runesOf xs).length ≤ 140737488355328 := by
    obtain ⟨r, _, e, _, _, _, hl⟩ := runes_word hok.1
    rw [e]; omega
  have hrvB : ∀ g, rv.ownBlock = some g → wr.heap.size ≤ g ∧ g < W2.heap.size := fun g hg' => ⟨by have := owns_base hrv g hg'; omega, (hrv.lt g hg').2⟩
  have hx4B : ∀ g, x4.ownBlock = some g → g < wr.heap.size := fun g hg' => (h.row.lt g hg').2
  refine ⟨?_, ?_, fun y hy => ?_, ?_, h.below.trans ⟨hg.os.trans hbA.os, hg.tape.trans hbA.tape, hg.output.trans hbA.output, Nat.le_trans hbA.size hg.size, fun y hy => ?_⟩⟩
  · rw [rw_append, h.rests, hts]
    unfold restsF
    rw [List.map_append]
    rfl
  · rw [rowR_snoc, List.length_append]
    exact hown
  · rcases List.mem_append.1 hy with hy | hy
    · exact (h.ints y hy).turn (htA hbA) (fun g hg' e => by
        rcases hat with e' | e'
        · exact e' ▸ e
        · rw [e'] at e; cases e; omega)
    · simp only [List.mem_singleton] at hy
      subst hy
      refine (ints_own (O := fun g => x4.ownBlock = some g) hrv hlen (fun g h1 h2 => by have := hrvB g h1; have := hx4B g h2; omega)).turn (htA hb2A) (fun g hg' e => by
        rcases hat with e' | e'
        · exact e' ▸ e
        · rw [e'] at e; cases e; omega)
  · rw [h.err, hdr, errF_ok hok, hts]
    unfold lastO
    simp
  · exact (hg.block y (by omega) (fun e => by have := owns_base h.row y e.symm; omega)).trans (hbA.block y (by omega))
end Go.Proofs.YtkibkbbjpgomlaaDoor.F
