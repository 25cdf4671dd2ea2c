/-
  More small laws for walks, over any program: whole arrays by value, out of and into blocks. No function of the program is in sight.
-/
import Derived.Test.YtcpkpljeimbdiaaGreatAidB
import Derived.Laws.Rows
import Derived.Laws.Tables
import Derived.ChangeKeysEq
namespace Go.Proofs.YtcpkpljeimbdiaaGreat.Aid
open Go.RowKit
set_option linter.unnecessarySimpa false
set_option linter.unusedSimpArgs false
set_option linter.unusedVariables false

/-- a variable of an aggregate's value: a new block -/
theorem wpList_boxN {P : Program} {ops : Array Oper} {rest : List Oper} {o : Oper} {a : Act} {Q : Exit → Act → World → Prop} (w : World)
    (hw : Region.wanted o (yielded ops a.tmps) = true) (t : TypeId) (x : Operand) (hop : o.op = Op.box t x) (cs : Array Value) (hx : a.eval x = .agg cs)
    (hK : ∀ w1, Blk w1 w.heap.size t cs → Below w.heap.size w w1 → w1.heap.size = w.heap.size + 1 → wpList P ops Q rest (a.put o.dst (.pointer (some ⟨w.heap.size, 0, none⟩))) w1) :
    wpList P ops Q (o :: rest) a w := by
  refine wpList_want hw fun K hK' => ?_
  unfold Oper.wp
  simp [execOp, hop, hx, Instr.box, newVar, newRow, Value.cells, newObj, Result.andThen]
  exact hK' _ _ (hK _ (Blk.alloc_new _ _ _) ((Below.refl _ _).alloc (Nat.le_refl _) _) (by simp))

/-- a variable that is nought: a new block -/
theorem wpList_allocN {P : Program} {ops : Array Oper} {rest : List Oper} {o : Oper} {a : Act} {Q : Exit → Act → World → Prop} (w : World)
    (hw : Region.wanted o (yielded ops a.tmps) = true) (t : TypeId) (hop : o.op = Op.alloc t) (i : TypeInfo) (hi : P.info? t = some i) (cs : Array Value) (hz : i.zero = some (.agg cs))
    (hK : ∀ w1, Blk w1 w.heap.size t cs → Below w.heap.size w w1 → w1.heap.size = w.heap.size + 1 → wpList P ops Q rest (a.put o.dst (.pointer (some ⟨w.heap.size, 0, none⟩))) w1) :
    wpList P ops Q (o :: rest) a w := by
  refine wpList_want hw fun K hK' => ?_
  unfold Oper.wp
  have hzv : (zeroValue t).run P w = .ok (.agg cs) w := by simp [zeroValue, typeInfo, hi, hz]
  simp [execOp, hop, Instr.alloc, hzv, newVar, newRow, Value.cells, newObj, Result.andThen]
  exact hK' _ _ (hK _ (Blk.alloc_new _ _ _) ((Below.refl _ _).alloc (Nat.le_refl _) _) (by simp))

/-- is it made of parts? -/
def aggD : TypeDesc → Bool
  | .struct _ | .array _ _ => true
  | _ => false
theorem run_loadVar_cells {P : Program} (w : World) (t : TypeId) (d : TypeDesc) (hu : P.underlying t = some d) (hd : aggD d = true) (b off : Nat) (vs : Array Value) (hi : (P.info? t).map (·.size) = some vs.size)
    (hc : ∀ j (hj : j < vs.size), w.cell? ⟨b, off + j, none⟩ = some vs[j]) : (loadVar t ⟨b, off, none⟩).run P w = .ok (.agg vs) w := by
  have hl : (loadCells ⟨b, off, none⟩ vs.toList.length).run P w = .ok vs.toList.toArray w :=
    run_loadCells_list (P := P) w ⟨b, off, none⟩ vs.toList (fun j v hv => by
      have hadd : (⟨b, off, none⟩ : Addr).add j = ⟨b, off + j, none⟩ := by unfold Addr.add; split <;> simp_all
      rw [hadd]
      obtain ⟨hj, hv⟩ := List.getElem?_eq_some_iff.1 hv
      rw [hc j (by simpa using hj), ← hv]; simp)
  cases hq : P.info? t with
  | none => simp [hq] at hi
  | some i =>
    simp [hq] at hi
    simp only [Array.length_toList, Array.toArray_toList] at hl
    have hag : (isAgg t).run P w = .ok true w := by
      unfold isAgg
      simp only [Sem.run_bind, run_underlying hu, Result.andThen_ok]
      cases d <;> simp_all [aggD]
    simp [loadVar, hag, sizeOf, typeInfo, hq, hi, hl, Result.andThen]

/-- a whole array's load -/
theorem wpList_loadN {P : Program} {ops : Array Oper} {rest : List Oper} {o : Oper} {a : Act} {Q : Exit → Act → World → Prop} (w : World)
    (hw : Region.wanted o (yielded ops a.tmps) = true) (t : TypeId) (x : Operand) (hop : o.op = Op.load t x) (d : TypeDesc) (hu : P.underlying t = some d) (hd : aggD d = true)
    (b off : Nat) (hx : a.eval x = .pointer (some ⟨b, off, none⟩)) (vs : Array Value) (hi : (P.info? t).map (·.size) = some vs.size)
    (hc : ∀ j (hj : j < vs.size), w.cell? ⟨b, off + j, none⟩ = some vs[j])
    (hK : wpList P ops Q rest (a.put o.dst (.agg vs)) w) : wpList P ops Q (o :: rest) a w := by
  refine wpList_want hw fun K hK' => ?_
  unfold Oper.wp
  simp [execOp, hop, hx, Instr.loadAt, Instr.sureAddr, Result.andThen, run_loadVar_cells w t d hu hd b off vs hi hc]
  exact hK' _ _ hK

theorem Blk.cells {w : World} {g : Nat} {t : TypeId} {cs : Array Value} (h : Blk w g t cs) : ∀ j (hj : j < cs.size), w.cell? ⟨g, 0 + j, none⟩ = some cs[j] := fun j hj => by
  rw [Nat.zero_add, h.cell]; exact Array.getElem?_eq_getElem hj

theorem Blk.row {w : World} {g : Nat} {t : TypeId} {cs : Array Value} (h : Blk w g t cs) (ds : Array Value) : Blk (w.setRow g ds) g t ds := by
  unfold Blk at h ⊢
  simp [World.setRow, Array.getElem?_modify, h]
theorem Below.row {B g : Nat} {a w : World} (h : Below B a w) (hg : B ≤ g) (ds : Array Value) : Below B a (w.setRow g ds) :=
  ⟨h.os, h.tape, h.output, by simpa [World.setRow] using h.size, fun k hk => by
    rw [← h.block k hk]
    simp only [World.setRow, Array.getElem?_modify]
    rw [if_neg (by omega)]⟩

/-- a whole array's store -/
theorem wpList_storeN {P : Program} {ops : Array Oper} {rest : List Oper} {o : Oper} {a : Act} {Q : Exit → Act → World → Prop} (w : World)
    (hw : Region.wanted o (yielded ops a.tmps) = true) (t : TypeId) (x v : Operand) (hop : o.op = Op.store t x v) (hdst : o.dst = none)
    (g : Nat) (hx : a.eval x = .pointer (some ⟨g, 0, none⟩)) (T : TypeId) (old vs : Array Value) (hb : Blk w g T old) (hv : a.eval v = .agg vs) (hi : (P.info? t).map (·.size) = some vs.size) (ho : old.size = vs.size) (h1 : vs.all (·.oneCell') = true)
    (hK : ∀ w1, Blk w1 g T vs → Below g w w1 → w1.heap.size = w.heap.size → (∀ k, k ≠ g → w1.heap[k]? = w.heap[k]?) → wpList P ops Q rest a w1) : wpList P ops Q (o :: rest) a w := by
  refine wpList_want hw fun K hK' => ?_
  unfold Oper.wp
  simp [execOp, hop, hx, hv, Instr.storeAt, Instr.sureAddr, Result.andThen, run_storeVar_row w g T t old vs hb hi ho h1]
  have e : a.put o.dst undef = a := by rw [hdst]; rfl
  show K (a.put o.dst undef) _
  rw [e]
  refine hK' _ _ (hK _ (hb.row _) (Below.row (Below.refl _ _) (Nat.le_refl _) _) (by simp [World.setRow]) fun k hk => ?_)
  simp only [World.setRow, Array.getElem?_modify]
  rw [if_neg (fun e => hk e.symm)]

/-- a result that lies in a block -/
theorem results_cellN {P : Program} {fn : Func} {p : Tmp} {ty : TypeId} (h : fn.results = #[.cell p ty]) (tmps : Array Value) (w : World) (g : Nat) (hp : tmps.getD p undef = .pointer (some ⟨g, 0, none⟩))
    (T : TypeId) (vs : Array Value) (hb : Blk w g T vs) (d : TypeDesc) (hu : P.underlying ty = some d) (hd : aggD d = true) (hi : (P.info? ty).map (·.size) = some vs.size) :
    (results fn tmps).run P w = .ok (.agg vs) w := by
  rw [Array.getD_eq_getD_getElem?] at hp
  simp [results, h, hp, asAddr, Result.andThen, run_loadVar_cells w ty d hu hd g 0 vs hi hb.cells]

/-! ### rows of small numbers -/

/-- cells of small numbers -/
def u8A (n : Nat) (f : Nat → Nat) : Array Value := Array.ofFn (n := n) fun j => .int .u8 (f j)
theorem u8A_size (n : Nat) (f : Nat → Nat) : (u8A n f).size = n := by simp [u8A]
theorem u8A_at (n : Nat) (f : Nat → Nat) (j : Nat) (h : j < (u8A n f).size) : (u8A n f)[j] = .int .u8 (f j) := by simp [u8A]
theorem u8A_get (n : Nat) (f : Nat → Nat) (j : Nat) (h : j < n) : (u8A n f)[j]? = some (.int .u8 (f j)) := by simp [u8A, h]
theorem u8A_all (n : Nat) (f : Nat → Nat) : (u8A n f).all (·.oneCell') = true := by
  rw [Array.all_eq_true]
  intro i hi
  rw [u8A_at]; rfl
theorem u8A_set (n : Nat) (f : Nat → Nat) (j x : Nat) : (u8A n f).setIfInBounds j (.int .u8 x) = u8A n (fun i => if i = j then x else f i) := by
  apply Array.ext
  · simp [u8A]
  · intro i h1 h2
    rw [u8A_at, Array.getElem_setIfInBounds, u8A_at]
    · by_cases h : j = i
      · subst h; simp
      · rw [if_neg h, if_neg (fun e => h e.symm)]
    · simpa using h1
theorem u8A_ext {n : Nat} {f g : Nat → Nat} (h : ∀ j, j < n → f j = g j) : u8A n f = u8A n g := by
  apply Array.ext
  · simp [u8A]
  · intro i h1 h2
    rw [u8A_at, u8A_at, h i (by simpa [u8A] using h1)]
theorem u8A_inj {n : Nat} {f g : Nat → Nat} (h : u8A n f = u8A n g) : ∀ j, j < n → f j = g j := by
  intro j hj
  have := congrArg (·[j]?) h
  simp only [u8A_get _ _ _ hj, Option.some.injEq, Value.int.injEq, true_and] at this
  omega

theorem run_eqItems_u8 {P : Program} {e : TypeId} (d : Nat) (he : P.underlying e = some (.int .u8)) (hc : P.cellsOf e = 1) (n : Nat) (f g : Nat → Nat) (w : World) : ∀ is : List Nat, (∀ i ∈ is, i < n) →
    (Op.eqItems (d + 1) e (P.cellsOf e) (u8A n f) (u8A n g) is).run P w = .ok (is.all fun i => f i == g i) w
  | [], _ => by simp [Op.eqItems]
  | i :: is, hi => by
    have h0 := hi i (by simp)
    have ih := run_eqItems_u8 d he hc n f g w is (fun x hx => hi x (by simp [hx]))
    have hp : ∀ f : Nat → Nat, (part e (u8A n f) (i * 1)).run P w = .ok (.int .u8 (f i)) w := fun f => by
      simp [part, isAgg, run_underlying he, u8A_get n f i h0, Result.andThen]
    rw [hc] at ih ⊢
    simp only [Op.eqItems, Sem.run_bind, hp, Result.andThen_ok]
    have hq : (Op.equalIn (d + 1) e (.int .u8 (f i)) (.int .u8 (g i))).run P w = .ok (f i == g i) w := by
      simp [Op.equalIn, run_underlying he, Result.andThen]
      rw [Bool.eq_iff_iff]; simp only [beq_iff_eq]; omega
    rw [hq]
    simp only [Result.andThen_ok]
    by_cases h : f i = g i
    · simp [h, ih]
    · simp [h]
theorem run_equal_u8 {P : Program} {t e : TypeId} {n : Nat} (hu : P.underlying t = some (.array n e)) (i : TypeInfo) (hi : P.info? e = some i) (he : P.underlying e = some (.int .u8)) (hc : P.cellsOf e = 1) (f g : Nat → Nat) (w : World) :
    (Op.equal t (.agg (u8A n f)) (.agg (u8A n g))).run P w = .ok ((List.range n).all fun i => f i == g i) w := by
  unfold Op.equal Op.maxDepth
  rw [run_equalIn_array w 9999 _ _ hu hi]
  exact run_eqItems_u8 9998 he hc n f g w _ (by simp)
theorem all_u8 {n : Nat} {f g : Nat → Nat} : ((List.range n).all fun i => f i == g i) = true ↔ ∀ j, j < n → f j = g j := by simp
end Go.Proofs.YtcpkpljeimbdiaaGreat.Aid
