/-
  Aid + AidB + MapF + MapG + MapR + AidC + QuiR + Shut.
-/
import Derived.Test.YtkibkbbjpgomlaaDoorRows
import Derived.WalkKit
import Derived.WalkLawsBesides
import Derived.WalkSpells
import Derived.ProofKit
import Derived.Laws.IdiomStrings
import Derived.Laws.BytesArg
import Derived.Laws.AppendOwnNone
import Derived.OpenShut
import Derived.Deep.Draws
import Derived.Maps.OwnSet
import Derived.Maps.Views
import Derived.DeepKeys4
import Derived.Maps.RangeWalk
import Derived.Laws.Rows
import Derived.Laws.Tables
import Derived.ChangeKeysEq
import Derived.Sort.QuietIn
import Derived.OwnWalkIn
import Derived.Deep.DeepHandedRow
import Derived.SizedLaws
namespace Go.Proofs.YtkibkbbjpgomlaaDoor.Aid
open Go.RowKit
set_option linter.unnecessarySimpa false
set_option linter.unusedSimpArgs false
set_option linter.unusedVariables false

theorem below_grown {W w w' : World} {B : Nat} {row : Option Nat} (h : Below B W w) (hg : w.grownBy w' row) (hB : B ≤ w.heap.size) (hr : ∀ k, row = some k → B ≤ k) : Below B W w' := h.grown hg hB hr

/-- 'x := []byte(s)': a new block holds the bytes. -/
theorem wpList_bytes {P : Program} {ops : Array Oper} {rest : List Oper} {o : Oper} {a : Act} {Q : Exit → Act → World → Prop} (w : World)
    (hg : o.guard = none) (src dst : TypeId) (x : Operand) (hop : o.op = Op.convert src dst x) (e : TypeId)
    (hs : P.underlying src = some .string) (hd : P.underlying dst = some (.slice e)) (he : P.underlying e = some (.int .u8))
    (s : ByteArray) (hx : a.eval x = .string s) (n : Nat) (hn : s.size = n)
    (hK : ∀ g cap w1, n ≤ cap → w.heap.size ≤ g → g < w1.heap.size → Below w.heap.size w w1 → (∀ j (hj : j < s.size), w1.cell? ⟨g, j, none⟩ = some (.int .u8 ((s[j]'hj).toNat : Int))) →
      wpList P ops Q rest (a.put o.dst (.slice (some ⟨g, 0, none⟩) n cap)) w1) : wpList P ops Q (o :: rest) a w := by
  subst hn
  refine wpList_plain hg fun K hK' => ?_
  have hrun := run_bytes_of_string (P := P) w src dst e s hs hd he
  unfold Oper.wp
  simp [execOp, hop, hx, hrun, Result.andThen]
  refine hK' _ _ (hK w.heap.size _ _ (grownCap_ge w s.size 0 e) (Nat.le_refl _) (by simp) ((Below.refl _ _).drew.alloc (by simp) _) ?_)
  intro j hj
  have h1 := World.cell?_alloc_mark w.drew (bytesRow s (grownCap w s.size 0 e)) e ((bytesRow s (grownCap w s.size 0 e)).size, (bytesRow s (grownCap w s.size 0 e)).size + 1) j
  have h2 := bytesRow_at s (grownCap w s.size 0 e) j hj
  rw [h2] at h1
  exact h1
/-- how long the string in a slot is: for a loop's measure -/
def strLen : Value → Nat | .string t => t.size | _ => 0

theorem below_of_grown {B : Nat} {w w' : World} {row : Option Nat} (hg : w.grownBy w' row) (hB : B ≤ w.heap.size) (hr : ∀ k, row = some k → B ≤ k) : Below B w w' := (Below.refl B w).grown hg hB hr

/-- an owned row stays owned where nothing that was there has turned -/
theorem owns_below {w w' : World} {base : Nat} {e : TypeId} {size : Nat} {v : Value} {n : Nat} {xs : List Value} (h : w.ownsRow base e size v n xs) (hb : Below w.heap.size w w') : w'.ownsRow base e size v n xs := by
  obtain ⟨h1, h2⟩ := h
  refine ⟨h1, ?_⟩
  rcases h2 with h2 | ⟨g, cap, cur, hv, hg, hh, r⟩
  · exact Or.inl h2
  · refine Or.inr ⟨g, cap, cur, hv, hg, ?_, r⟩
    rw [hb.block g (Array.getElem?_eq_some_iff.1 hh).1]
    exact hh
/-- where an owned row begins: not below its base -/
theorem owns_base {w : World} {base : Nat} {e : TypeId} {size : Nat} {v : Value} {n : Nat} {xs : List Value} (h : w.ownsRow base e size v n xs) : ∀ k, v.ownBlock = some k → base ≤ k := by
  intro k hk
  rcases h.2 with ⟨rfl, _⟩ | ⟨g, cap, cur, rfl, hb, _⟩
  · simp [Value.ownBlock] at hk
  · simp [Value.ownBlock] at hk; omega
theorem cell_one {w : World} (x : Value) (t : TypeId) : ∀ j u, [x][j]? = some u → (w.alloc (.cells #[x] t)).cell? ((⟨w.heap.size, 0, none⟩ : Addr).add j) = some u := by
  intro j u hj
  match j, hj with
  | 0, hj =>
    simp at hj; subst hj
    simp [Addr.add]
  | j + 1, hj => simp at hj
theorem one_int {k : IntKind} {x : Int} : ∀ u ∈ [Value.int k x], u.oneCell' = true := by intro u hu; simp at hu; subst hu; rfl

theorem add_plain (g j : Nat) : (⟨g, 0, none⟩ : Addr).add j = ⟨g, j, none⟩ := by unfold Addr.add; split <;> simp_all
/-- bytes as cells -/
def bytesV (l : List UInt8) : List Value := l.map fun b => .int .u8 (b.toNat : Int)
theorem bytesV_append (l m : List UInt8) : bytesV (l ++ m) = bytesV l ++ bytesV m := by simp [bytesV]
theorem bytesV_length (l : List UInt8) : (bytesV l).length = l.length := by simp [bytesV]
theorem bytesV_one (l : List UInt8) : ∀ u ∈ bytesV l, u.oneCell' = true := by intro u hu; simp [bytesV] at hu; obtain ⟨b, _, rfl⟩ := hu; rfl

/-- 'string(b)': the cells' bytes. -/
theorem wpList_string {P : Program} {ops : Array Oper} {rest : List Oper} {o : Oper} {a : Act} {Q : Exit → Act → World → Prop} (w : World)
    (hg : o.guard = none) (src dst : TypeId) (x : Operand) (hop : o.op = Op.convert src dst x) (e : TypeId)
    (hs : P.underlying src = some (.slice e)) (hd : P.underlying dst = some .string) (he : P.underlying e = some (.int .u8))
    (g n cap : Nat) (l : List UInt8) (hx : a.eval x = .slice (some ⟨g, 0, none⟩) n cap) (hn : n = l.length) (hc : ∀ j (hj : j < l.length), w.cell? ⟨g, j, none⟩ = some (.int .u8 (l[j].toNat : Int)))
    (hK : wpList P ops Q rest (a.put o.dst (.string ⟨l.toArray⟩)) w) : wpList P ops Q (o :: rest) a w := by
  subst hn
  refine wpList_plain hg fun K hK' => ?_
  have hrun := run_convert_bytes_back (P := P) w src dst e ⟨g, 0, none⟩ cap l hs he hd (fun j hj => by rw [add_plain]; exact hc j hj)
  unfold Oper.wp
  simp [execOp, hop, hx, hrun, Result.andThen]
  exact hK' _ _ hK

/-- 'string(b)' of a row of the call's own, nil or not. -/
theorem wpList_string_own {P : Program} {ops : Array Oper} {rest : List Oper} {o : Oper} {a : Act} {Q : Exit → Act → World → Prop} (w : World)
    (hg : o.guard = none) (src dst : TypeId) (x : Operand) (hop : o.op = Op.convert src dst x) (e : TypeId)
    (hs : P.underlying src = some (.slice e)) (hd : P.underlying dst = some .string) (he : P.underlying e = some (.int .u8))
    (base : Nat) (v : Value) (l : List UInt8) (hx : a.eval x = v) (hown : w.ownsRow base e 1 v l.length (bytesV l))
    (hK : wpList P ops Q rest (a.put o.dst (.string ⟨l.toArray⟩)) w) : wpList P ops Q (o :: rest) a w := by
  rcases hown.2 with ⟨rfl, hl⟩ | ⟨g, cap, cur, rfl, hb, hg', hnc, hcm, hcs, htake⟩
  · have hl0 : l = [] := List.eq_nil_of_length_eq_zero (by simpa using hl)
    subst hl0
    refine wpList_plain hg fun K hK' => ?_
    have hrun := run_convert_bytes_nil (P := P) w src e hs he 0 0 dst hd
    unfold Oper.wp
    simp [execOp, hop, hx, hrun, Result.andThen]
    exact hK' _ _ hK
  · refine wpList_string w hg src dst x hop e hs hd he g l.length cap l hx rfl ?_ hK
    intro j hj
    have := hown.cells (g := g) rfl j (.int .u8 (l[j].toNat : Int)) (by simp [bytesV, List.getElem?_eq_getElem hj])
    rw [add_plain] at this; exact this

/-- a slice value whose elements read as a list of integers -/
def Ints (w : World) (k : IntKind) (v : Value) (l : List Int) : Prop := l.length ≤ 140737488355328 ∧ ((l = [] ∧ (v = .slice none 0 0 ∨ ∃ a cap, v = .slice (some a) 0 cap)) ∨
  (∃ b off cap, v = .slice (some ⟨b, off, none⟩) l.length cap ∧ b < w.heap.size ∧ ∀ j, j < l.length → w.cell? ⟨b, off + j, none⟩ = some (.int k (l.getD j 0))))
theorem Ints.below {w w' : World} {k : IntKind} {v : Value} {l : List Int} (h : Ints w k v l) (hb : Below w.heap.size w w') : Ints w' k v l := by
  obtain ⟨h0, h | ⟨b, off, cap, hv, hlt, hc⟩⟩ := h
  · exact ⟨h0, .inl h⟩
  · exact ⟨h0, .inr ⟨b, off, cap, hv, by have := hb.size; omega, fun j hj => (hb.cell (p := ⟨b, off + j, none⟩) hlt).trans (hc j hj)⟩⟩
theorem Ints.own {w : World} {base : Nat} {e : TypeId} {k : IntKind} {v : Value} {l : List Int} (h : w.ownsRow base e 1 v l.length (l.map (.int k))) (hl : l.length ≤ 140737488355328) : Ints w k v l := by
  refine ⟨hl, ?_⟩
  rcases h.2 with ⟨rfl, hn⟩ | ⟨g, cap, cur, rfl, hb, hg, hnc, hcm, hcs, htake⟩
  · exact .inl ⟨List.eq_nil_of_length_eq_zero (by simpa using hn), .inl rfl⟩
  · refine .inr ⟨g, 0, cap, rfl, (Array.getElem?_eq_some_iff.1 hg).1, ?_⟩
    intro j hj
    have := h.cells (g := g) rfl j (.int k (l.getD j 0)) (by simp [List.getElem?_eq_getElem hj])
    rw [add_plain] at this
    rw [Nat.zero_add]
    exact this

theorem Ints.nil (w : World) (k : IntKind) : Ints w k (.slice none 0 0) [] := ⟨by simp, .inl ⟨rfl, .inl rfl⟩⟩
theorem Ints.form {w : World} {k : IntKind} {v : Value} {l : List Int} (h : Ints w k v l) : ∃ a cap, v = .slice a l.length cap := by
  obtain ⟨_, ⟨rfl, rfl | ⟨a, cap, rfl⟩⟩ | ⟨b, off, cap, rfl, _⟩⟩ := h
  · exact ⟨none, 0, rfl⟩
  · exact ⟨_, cap, rfl⟩
  · exact ⟨_, cap, rfl⟩
/-- the cell of an element -/
theorem Ints.at_ {w : World} {K : IntKind} {a : Option Addr} {n cap : Nat} {l : List Int} (h : Ints w K (.slice a n cap) l) {k : Nat} (hk : k < l.length) {x : Int} (hx : l.getD k 0 = x) : ∃ b o, a = some ⟨b, o, none⟩ ∧ b < w.heap.size ∧ w.cell? ⟨b, o + k, none⟩ = some (.int K x) := by
  obtain ⟨_, ⟨rfl, _⟩ | ⟨b, o, c, hv, hlt, hc⟩⟩ := h
  · simp at hk
  · simp at hv; exact ⟨b, o, hv.1, hlt, by rw [← hx]; exact hc k hk⟩
/-- out of an argument's reading -/
theorem Ints.arg {w : World} {k : IntKind} (a : Addr) (len cap : Nat) (zs : List Int) (hb : a.block < w.heap.size) (hl : len ≤ zs.length) (hm : len ≤ 140737488355328) (hc : ∀ i, i < zs.length → w.cell? (a.add i) = some (.int k (zs.getD i 0))) : Ints w k (.slice (some a) len cap) (zs.take len) := by
  have hlen : (zs.take len).length = len := by simp [hl]
  refine ⟨by omega, ?_⟩
  by_cases h0 : len = 0
  · subst h0; exact .inl ⟨by simp, .inr ⟨a, cap, rfl⟩⟩
  · obtain ⟨b, off, rfl, hc'⟩ := ints_at hc (by omega)
    refine .inr ⟨b, off, cap, by rw [hlen], hb, fun j hj => ?_⟩
    rw [hc' j (by omega)]
    simp only [List.getD_eq_getElem?_getD, List.getElem?_take]
    rw [if_pos (by omega)]

theorem wpList_want {P : Program} {ops : Array Oper} {rest : List Oper} {o : Oper} {a : Act} {Q : Exit → Act → World → Prop} {w : World} (hw : Region.wanted o (yielded ops a.tmps) = true)
    (h : ∀ K : Act → World → Prop, (∀ a w, wpList P ops Q rest a w → K a w) → o.wp P a w K Q) : wpList P ops Q (o :: rest) a w := by
  unfold wpList; rw [if_pos hw]; exact .inl (h _ (fun _ _ h => h))

/-- 'append(v, u...)', v a row of the call's own, u whatever reads as a list of integers. -/
theorem wpList_append_ints {P : Program} {ops : Array Oper} {rest : List Oper} {o : Oper} {a : Act} {Q : Exit → Act → World → Prop} (w : World)
    (hw : Region.wanted o (yielded ops a.tmps) = true) (s x : Operand) (t : TypeId)
    (ho : o.op = .call { callee := .builtin .append, args := #[s, x], argTypes := #[t, t] })
    (base : Nat) (e : TypeId) (i : TypeInfo) (z : Value) (bytes : Nat) (ht : P.underlying t = some (.slice e)) (hi : P.info? e = some i) (hz : i.zero = some z)
    (hsize : i.size = 1) (hby : i.bytes = bytes) (hzs : z.cells.size = 1)
    (k : IntKind) (v : Value) (n : Nat) (xs : List Value) (hs : a.eval s = v) (hown : w.ownsRow base e 1 v n xs) (u : Value) (l : List Int) (hx : a.eval x = u) (hl : Ints w k u l)
    (h63 : n + l.length ≤ maxLen) (hbytes : (n + l.length) * bytes ≤ 140737488355328) (hbase : base ≤ w.heap.size)
    (h : ∀ v' w', w'.ownsRow base e 1 v' (n + l.length) (xs ++ l.map (.int k)) → Below base w w' → wpList P ops Q rest (a.put o.dst v') w') : wpList P ops Q (o :: rest) a w := by
  refine wpList_want hw fun K hK => ?_
  have go : ∀ (ad : Addr) (c : Nat), u = .slice (some ad) l.length c → (∀ j y, (l.map (Value.int k))[j]? = some y → w.cell? (ad.add j) = some y) → o.wp P a w K Q := by
    intro ad c hu hnews
    refine wp_append_own w s x t ho base e i z 1 bytes ht hi hz hsize hby hzs (by decide) v n xs hs hown ad l.length c (l.map (.int k)) (by rw [hx, hu]) (by simp) hnews ?_ h63 hbytes hbase ?_
    · intro y hy; obtain ⟨q, _, rfl⟩ := List.mem_map.1 hy; rfl
    · intro v' w' h2 h3 _
      exact hK _ _ (h v' w' h2 (below_of_grown h3 hbase (owns_base hown)))
  obtain ⟨_, ⟨rfl, rfl | ⟨ad, cap, rfl⟩⟩ | ⟨b, off, cap, rfl, hlt, hc⟩⟩ := hl
  · have hrun := run_append_owned_none (P := P) (w := w) base t o.type e i 1 ht hi v n xs hown
    unfold Oper.wp
    simp [execOp, ho, resolve, invoke, builtin, hs, hx, hrun, Result.andThen]
    exact hK _ _ (h v w (by simpa using hown) (Below.refl _ _))
  · exact go ad cap rfl (fun j y hj => by simp at hj)
  · refine go ⟨b, off, none⟩ cap rfl (fun j y hj => ?_)
    have hj' : j < l.length := by have := (List.getElem?_eq_some_iff.1 hj).1; simpa using this
    have hadd : (⟨b, off, none⟩ : Addr).add j = ⟨b, off + j, none⟩ := by unfold Addr.add; split <;> simp_all
    rw [hadd, hc j hj']
    simp [List.getElem?_eq_getElem hj'] at hj
    simp [List.getD_eq_getElem?_getD, List.getElem?_eq_getElem hj', hj]

theorem ext_at (s : ByteArray) (a b j : Nat) (h : j < (s.extract a b).size) (h' : a + j < s.size) : (s.extract a b)[j] = s[a + j] := by
  simp [ByteArray.getElem_eq_getElem_data, ByteArray.data_extract]
end Go.Proofs.YtkibkbbjpgomlaaDoor.Aid
namespace Go.Proofs.YtkibkbbjpgomlaaDoor.Aid
open Go.RowKit
set_option linter.unnecessarySimpa false
set_option linter.unusedSimpArgs false
set_option linter.unusedVariables false

/-- 'append(v, u)', v a row of the call's own: u has just been laid in a block of one cell. -/
theorem wpList_push {P : Program} {ops : Array Oper} {rest : List Oper} {o : Oper} {a : Act} {Q : Exit → Act → World → Prop} (w : World)
    (hw : Region.wanted o (yielded ops a.tmps) = true) (s x : Operand) (t : TypeId)
    (ho : o.op = .call { callee := .builtin .append, args := #[s, x], argTypes := #[t, t] })
    (base : Nat) (e : TypeId) (i : TypeInfo) (z : Value) (bytes : Nat) (ht : P.underlying t = some (.slice e)) (hi : P.info? e = some i) (hz : i.zero = some z)
    (hsize : i.size = 1) (hby : i.bytes = bytes) (hzs : z.cells.size = 1)
    (v : Value) (n : Nat) (xs : List Value) (hs : a.eval s = v) (hown : w.ownsRow base e 1 v n xs) (g : Nat) (u : Value) (hx : a.eval x = .slice (some ⟨g, 0, none⟩) 1 1)
    (hc : w.cell? ⟨g, 0, none⟩ = some u) (h1 : u.oneCell' = true) (h63 : n + 1 ≤ maxLen) (hbytes : (n + 1) * bytes ≤ 140737488355328) (hbase : base ≤ w.heap.size)
    (h : ∀ v' w', w'.ownsRow base e 1 v' (n + 1) (xs ++ [u]) → Below base w w' → wpList P ops Q rest (a.put o.dst v') w') : wpList P ops Q (o :: rest) a w := by
  refine wpList_want hw fun K hK => ?_
  refine wp_append_own w s x t ho base e i z 1 bytes ht hi hz hsize hby hzs (by decide) v n xs hs hown ⟨g, 0, none⟩ 1 1 [u] hx rfl ?_ ?_ h63 hbytes hbase ?_
  · intro j y hj
    match j, hj with
    | 0, hj => simp at hj; subst hj; simpa [Addr.add] using hc
    | j + 1, hj => simp at hj
  · intro y hy; simp at hy; subst hy; exact h1
  · intro v' w' h2 h3 _
    exact hK _ _ (h v' w' h2 (below_of_grown h3 hbase (owns_base hown)))

theorem cell_new (w : World) (u : Value) (t : TypeId) (g : Nat) (hg : g = w.heap.size) : (w.alloc (.cells #[u] t)).cell? ⟨g, 0, none⟩ = some u := by
  subst hg; rw [World.cell?_alloc_at _ _ _ _ rfl]; rfl

/-- a block of cells, known whole -/
def Blk (w : World) (g : Nat) (t : TypeId) (cs : Array Value) : Prop := w.heap[g]? = some (.cells cs t (0, 0))
theorem Blk.lt {w : World} {g : Nat} {t : TypeId} {cs : Array Value} (h : Blk w g t cs) : g < w.heap.size := (Array.getElem?_eq_some_iff.1 h).1
theorem Blk.cell {w : World} {g : Nat} {t : TypeId} {cs : Array Value} (h : Blk w g t cs) (j : Nat) : w.cell? ⟨g, j, none⟩ = cs[j]? := by
  unfold Blk at h; unfold World.cell?; simp [h]
theorem Blk.free {w : World} {g : Nat} {t : TypeId} {cs : Array Value} (h : Blk w g t cs) (j : Nat) : w.frozen? ⟨g, j, none⟩ = false := by
  unfold Blk at h; unfold World.frozen?; simp [h]
theorem Blk.set {w : World} {g : Nat} {t : TypeId} {cs : Array Value} (h : Blk w g t cs) (j : Nat) (v : Value) : Blk (w.setCell ⟨g, j, none⟩ v) g t (cs.setIfInBounds j v) := by
  unfold Blk at h ⊢
  simp only [World.setCell, Array.getElem?_modify, if_true, h, Option.map_some]
  rfl
theorem Blk.below {w w' : World} {B g : Nat} {t : TypeId} {cs : Array Value} (h : Blk w g t cs) (hb : Below B w w') (hg : g < B) : Blk w' g t cs := by
  unfold Blk at h ⊢; rw [hb.block g hg]; exact h
theorem Blk.drewN {w : World} {g : Nat} {t : TypeId} {cs : Array Value} (h : Blk w g t cs) (n : Nat) : Blk (w.drewN n) g t cs := h
theorem Blk.other {w : World} {g : Nat} {t : TypeId} {cs : Array Value} (h : Blk w g t cs) {a : Addr} (ha : a.block ≠ g) (v : Value) : Blk (w.setCell a v) g t cs := by
  unfold Blk at h ⊢; rw [Below.heap_setCell _ _ _ _ (fun e => ha e.symm)]; exact h

theorem Blk.alloc_new (w : World) (cs : Array Value) (t : TypeId) : Blk (w.alloc (.cells cs t)) w.heap.size t cs := by
  unfold Blk; exact heap_alloc_new w _
theorem madeCells_one (z : Value) (n : Nat) : madeCells #[z] n = Array.replicate n z := by
  apply Array.ext
  · simp [madeCells]
  · intro i h1 h2
    simp [madeCells]
    rw [Nat.mod_one]; rfl

/-- 'make([]T, n)', T of one cell: a block of noughts. -/
theorem wpList_makeN {P : Program} {ops : Array Oper} {rest : List Oper} {o : Oper} {a : Act} {Q : Exit → Act → World → Prop} (w : World)
    (hw : Region.wanted o (yielded ops a.tmps) = true) (lo co : Operand) (t : TypeId) (hop : o.op = Op.makeSlice t lo co) (e : TypeId) (i : TypeInfo) (z : Value)
    (h1 : P.underlying t = some (.slice e)) (h2 : P.info? e = some i) (h3 : i.zero = some z) (h4 : i.size = 1) (hz : z.cells = #[z]) (L C : Int) (hl : a.eval lo = .int .i64 L) (hc : a.eval co = .int .i64 C) (n : Nat) (hL : L = n) (hC : C = n)
    (b2 : i.bytes * n ≤ 281474976710656) (b3 : n ≤ maxLen)
    (hK : ∀ w1, Blk w1 w.heap.size e (Array.replicate n z) → Below w.heap.size w w1 → w1.heap.size = w.heap.size + 1 → wpList P ops Q rest (a.put o.dst (.slice (some ⟨w.heap.size, 0, none⟩) n n)) w1) :
    wpList P ops Q (o :: rest) a w := by
  refine wpList_want hw fun K hK' => ?_
  subst hL hC
  have hrun := run_make (P := P) w t e i z h1 h2 h3 .i64 .i64 (n : Int) (n : Int) (by omega) (Int.le_refl _) (by have := Int.ofNat_le.2 b2; rw [Int.natCast_mul] at this; exact this) (by unfold maxLen at b3; omega)
  rw [hz, h4] at hrun
  unfold Oper.wp
  simp [execOp, hop, hl, hc, hrun, Result.andThen]
  refine hK' _ _ (hK _ ?_ ((Below.refl _ _).alloc (Nat.le_refl _) _) (by simp))
  rw [madeCells_one]
  exact Blk.alloc_new _ _ _
end Go.Proofs.YtkibkbbjpgomlaaDoor.Aid
namespace Go.Proofs.YtkibkbbjpgomlaaDoor.Aid
open Go.RowKit Go.Maps
set_option linter.unnecessarySimpa false
set_option linter.unusedSimpArgs false
set_option linter.unusedVariables false

/-- every value reads as itself -/
def rid (v : Value) : Option (DataW Value × List MemPlace) := some (.held v, [])
/-- block b is a map of c entries: at key a it holds 'f a' -/
def MapF (P : Program) (k : TypeId) (q : IntKind) (w : World) (b : Nat) (f : Int → Option Value) (c : Nat) : Prop :=
  ∃ D : DataW Value, w.ownsMap P k rid b c D ∧ size D = c ∧ ∀ a, (Lit.int q a).wf = true → has D (.int q a) = (f a).isSome ∧ ∀ z, D.atKey (.int q a) (.held z) = .held ((f a).getD z)
section
variable {P : Program} {k t e : TypeId} {q : IntKind} {w w' : World} {b c : Nat} {f : Int → Option Value}
theorem MapF.lt (h : MapF P k q w b f c) : b < w.heap.size := by obtain ⟨D, h, _⟩ := h; exact h.lt
theorem MapF.kept (h : MapF P k q w b f c) (hb : w'.heap[b]? = w.heap[b]?) : MapF P k q w' b f c := by
  obtain ⟨D, ⟨es, clock, h1, h2, h3, h4⟩, r⟩ := h
  exact ⟨D, ⟨es, clock, hb.trans h1, h2, h3, h4⟩, r⟩
theorem key_int {a a' : Int} (h : a' ≠ a) : (Lit.int q a') ≠ .int q a := by intro e; injection e with _ e2; exact h e2
theorem keyLit_int (a : Int) : WideAt.IsKeyLit (.int q a) := by simp [WideAt.IsKeyLit]
theorem MapF.made (hk : P.underlying k = some (.int q)) (w : World) : MapF P k q (w.alloc (.map #[] 0)) w.heap.size (fun _ => none) 0 := by
  refine ⟨.map [], World.ownsMap_made w P k rid, rfl, fun a _ => ⟨rfl, fun z => rfl⟩⟩
theorem own_tight {D : DataW Value} {n : Nat} (h : w.ownsMap P k rid b n D) : w.ownsMap P k rid b (size D) D := by
  obtain ⟨es, clock, h1, h2, h3, h4⟩ := h
  refine ⟨es, clock, h1, h2, ?_, h4⟩
  rw [h4, size_eq, length_sorted]; simp
/-- 'v, ok := m[a]' -/
theorem MapF.look (hk : P.underlying k = some (.int q)) (ht : P.underlying t = some (.map k e)) (h : MapF P k q w b f c) {z : Value} (hz : (zeroValue e).run P w = .ok z w) {a : Int} (ha : (Lit.int q a).wf = true) :
    (Instr.lookup t (.map (some b)) (.int q a) true).run P w = .ok (.tuple #[(f a).getD z, .bool (f a).isSome]) w := by
  obtain ⟨D, ho, _, hf⟩ := h
  obtain ⟨v, ps, hrun, hv⟩ := ho.look_ok (int_keyed hk) ht hz (zd := .held z) (zp := []) rfl (keyOf_int_mk hk ha)
  rw [(hf a ha).1] at hrun
  rw [(hf a ha).2 z] at hv
  simp [rid] at hv
  rw [hrun, hv.1]
/-- 'm[a]' -/
theorem MapF.get (hk : P.underlying k = some (.int q)) (ht : P.underlying t = some (.map k e)) (h : MapF P k q w b f c) {z : Value} (hz : (zeroValue e).run P w = .ok z w) {a : Int} (ha : (Lit.int q a).wf = true) :
    (Instr.lookup t (.map (some b)) (.int q a) false).run P w = .ok ((f a).getD z) w := by
  obtain ⟨D, ho, _, hf⟩ := h
  obtain ⟨v, ps, hrun, hv⟩ := ho.lookup (int_keyed hk) ht hz (zd := .held z) (zp := []) rfl (keyOf_int_mk hk ha)
  rw [(hf a ha).2 z] at hv
  simp [rid] at hv
  rw [hrun, hv.1]
/-- a function with one place turned -/
def upd (f : Int → Option Value) (a : Int) (v : Option Value) : Int → Option Value := fun x => if x = a then v else f x
/-- 'm[a] = v' -/
theorem MapF.store (hk : P.underlying k = some (.int q)) (ht : P.underlying t = some (.map k e)) (h : MapF P k q w b f c) (hc : c < maxLen) {a : Int} (ha : (Lit.int q a).wf = true) (v : Value) :
    ∃ w', (Instr.mapUpdate t (.map (some b)) (.int q a) v).run P w = .ok () w' ∧ MapF P k q w' b (upd f a (some v)) (if (f a).isSome then c else c + 1) ∧ w.mapTurned w' b := by
  obtain ⟨D, ho, hs, hf⟩ := h
  have hm := ho.isMap
  have htd := ho.tidy (int_keyed hk)
  obtain ⟨w', hrun, ho', htn⟩ := ho.store (int_keyed hk) ht hc (keyOf_int_mk hk ha) (d := .held v) (ps := []) (val := v) rfl
  refine ⟨w', hrun, ⟨D.put (.int q a) (.held v), ?_, ?_, fun x hx => ?_⟩, htn⟩
  · have := own_tight ho'
    rw [size_put htd, hs, (hf a ha).1] at this
    exact this
  · rw [size_put htd, hs, (hf a ha).1]
  · unfold upd
    by_cases e1 : x = a
    · subst e1
      rw [if_pos rfl]
      exact ⟨has_put_same hm (keyLit_int x) _, fun z => atKey_put_same hm (keyLit_int x) _ _⟩
    · rw [if_neg e1]
      exact ⟨(has_put_other (key_int e1) _).trans (hf x hx).1, fun z => (atKey_put_other (key_int e1) _ _).trans ((hf x hx).2 z)⟩
/-- 'delete(m, a)' -/
theorem MapF.drop (hk : P.underlying k = some (.int q)) (ht : P.underlying t = some (.map k e)) (h : MapF P k q w b f c) {a : Int} (ha : (Lit.int q a).wf = true) (ty : TypeId) :
    ∃ w', (Builtin.delete_ #[t, k] ty #[.map (some b), .int q a]).run P w = .ok (.tuple #[]) w' ∧ MapF P k q w' b (upd f a none) (if (f a).isSome then c - 1 else c) ∧ w.mapTurned w' b := by
  obtain ⟨D, ho, hs, hf⟩ := h
  have htd := ho.tidy (int_keyed hk)
  obtain ⟨w', hrun, ho', htn⟩ := ho.drop (int_keyed hk) ht (keyOf_int_mk hk ha) ty
  have hsd := size_del (k := .int q a) htd
  rw [hs, (hf a ha).1] at hsd
  have hsz : size (D.del (.int q a)) = if (f a).isSome then c - 1 else c := by split at hsd <;> simp_all <;> omega
  refine ⟨w', hrun, ⟨D.del (.int q a), ?_, hsz, fun x hx => ?_⟩, htn⟩
  · have := own_tight ho'
    rw [hsz] at this; exact this
  · unfold upd
    by_cases e1 : x = a
    · subst e1
      rw [if_pos rfl]
      exact ⟨has_del_same, fun z => atKey_del_same _⟩
    · rw [if_neg e1]
      exact ⟨(has_del_other (key_int e1)).trans (hf x hx).1, fun z => (atKey_del_other (key_int e1) _).trans ((hf x hx).2 z)⟩
/-- 'len(m)' -/
theorem MapF.len (ht : P.underlying t = some (.map k e)) (h : MapF P k q w b f c) (ty : TypeId) : (Builtin.len_ #[t] ty #[.map (some b)]).run P w = .ok (.int .i64 c) w := by
  obtain ⟨D, ho, hs, hf⟩ := h
  rw [ho.len ht ty, hs]
theorem turned_block (h : w.mapTurned w' b) {g : Nat} (hg : g ≠ b) : w'.heap[g]? = w.heap[g]? := by
  obtain ⟨es, clock, es', clock', hb, rfl⟩ := h
  exact Array.getElem?_setIfInBounds_ne (Ne.symm hg)
theorem turned_size (h : w.mapTurned w' b) : w'.heap.size = w.heap.size := by
  obtain ⟨es, clock, es', clock', hb, rfl⟩ := h
  simp [ChangeMaps.setBlock]
end
end Go.Proofs.YtkibkbbjpgomlaaDoor.Aid
namespace Go.Proofs.YtkibkbbjpgomlaaDoor.Aid
open Go.RowKit Go.Maps
set_option linter.unnecessarySimpa false
set_option linter.unusedSimpArgs false
set_option linter.unusedVariables false

section
variable {P : Program} {k t e : TypeId} {α : Type} {κ : α → Value} {ok : α → Prop} {w w' : World} {b c : Nat} {f : α → Option Value}
/-- block b is a map of c entries: at the key named x it holds 'f x' -/
def MapG (P : Program) (k : TypeId) (κ : α → Value) (ok : α → Prop) (w : World) (b : Nat) (f : α → Option Value) (c : Nat) : Prop :=
  ∃ D : DataW Value, w.ownsMap P k rid b c D ∧ size D = c ∧ ∀ x l, ok x → keyOf P k (κ x) = some l → has D l = (f x).isSome ∧ ∀ z, D.atKey l (.held z) = .held ((f x).getD z)
theorem MapG.lt (h : MapG P k κ ok w b f c) : b < w.heap.size := by obtain ⟨D, h, _⟩ := h; exact h.lt
theorem MapG.kept (h : MapG P k κ ok w b f c) (hb : w'.heap[b]? = w.heap[b]?) : MapG P k κ ok w' b f c := by
  obtain ⟨D, ⟨es, clock, h1, h2, h3, h4⟩, r⟩ := h
  exact ⟨D, ⟨es, clock, hb.trans h1, h2, h3, h4⟩, r⟩
theorem MapG.made (w : World) : MapG P k κ ok (w.alloc (.map #[] 0)) w.heap.size (fun _ => none) 0 :=
  ⟨.map [], World.ownsMap_made w P k rid, rfl, fun _ _ _ _ => ⟨rfl, fun z => rfl⟩⟩
/-- 'v, ok := m[a]' -/
theorem MapG.look (K : Keyed P k) (ht : P.underlying t = some (.map k e)) (h : MapG P k κ ok w b f c) {z : Value} (hz : (zeroValue e).run P w = .ok z w) {x : α} (hx : ok x) (hk : ∃ l, keyOf P k (κ x) = some l) :
    (Instr.lookup t (.map (some b)) (κ x) true).run P w = .ok (.tuple #[(f x).getD z, .bool (f x).isSome]) w := by
  obtain ⟨D, ho, _, hf⟩ := h
  obtain ⟨l, hl⟩ := hk
  obtain ⟨v, ps, hrun, hv⟩ := ho.look_ok K ht hz (zd := .held z) (zp := []) rfl hl
  rw [(hf x l hx hl).1] at hrun
  rw [(hf x l hx hl).2 z] at hv
  simp [rid] at hv
  rw [hrun, hv.1]
open Classical in
/-- a function with one place turned -/
noncomputable def updG (f : α → Option Value) (a : α) (v : Option Value) : α → Option Value := fun x => if x = a then v else f x
/-- 'm[a] = v' -/
theorem MapG.store (K : Keyed P k) (ht : P.underlying t = some (.map k e)) (h : MapG P k κ ok w b f c) (hc : c < maxLen) {a : α} (ha : ok a) (hk : ∃ l, keyOf P k (κ a) = some l) (hinj : ∀ x, κ x = κ a → x = a) (v : Value) :
    ∃ w', (Instr.mapUpdate t (.map (some b)) (κ a) v).run P w = .ok () w' ∧ MapG P k κ ok w' b (updG f a (some v)) (if (f a).isSome then c else c + 1) ∧ w.mapTurned w' b := by
  obtain ⟨D, ho, hs, hf⟩ := h
  obtain ⟨l, hl⟩ := hk
  have hm := ho.isMap
  have htd := ho.tidy K
  obtain ⟨w', hrun, ho', htn⟩ := ho.store K ht hc hl (d := .held v) (ps := []) (val := v) rfl
  have hkl := K.key hl
  refine ⟨w', hrun, ⟨D.put l (.held v), ?_, ?_, fun x lx hx hlx => ?_⟩, htn⟩
  · have := own_tight ho'
    rw [size_put htd, hs, (hf a l ha hl).1] at this
    exact this
  · rw [size_put htd, hs, (hf a l ha hl).1]
  · unfold updG
    by_cases e1 : x = a
    · subst e1
      rw [hl] at hlx
      obtain rfl := Option.some.inj hlx
      rw [if_pos rfl]
      exact ⟨has_put_same hm hkl _, fun z => atKey_put_same hm hkl _ _⟩
    · rw [if_neg e1]
      have hne : lx ≠ l := fun e2 => e1 (hinj x (K.inj (e2 ▸ hlx) hl))
      exact ⟨(has_put_other hne _).trans (hf x lx hx hlx).1, fun z => (atKey_put_other hne _ _).trans ((hf x lx hx hlx).2 z)⟩
/-- 'len(m)' -/
theorem MapG.len (ht : P.underlying t = some (.map k e)) (h : MapG P k κ ok w b f c) (ty : TypeId) : (Builtin.len_ #[t] ty #[.map (some b)]).run P w = .ok (.int .i64 c) w := by
  obtain ⟨D, ho, hs, hf⟩ := h
  rw [ho.len ht ty, hs]
end
end Go.Proofs.YtkibkbbjpgomlaaDoor.Aid
namespace Go.Proofs.YtkibkbbjpgomlaaDoor.Aid
open Go.RowKit Go.Maps Go.ChangeMaps Go.MapKept Go.WideShapes
open Go.WideElems (Fit rd rg pl rd_key rd_val rg_of other_key)
set_option linter.unnecessarySimpa false
set_option linter.unusedSimpArgs false
set_option linter.unusedVariables false

section
variable {P : Program} {k t e : TypeId} {w w' : World} {b r n cnt : Nat} {D : DataW Value} {left : Lit → Bool}
theorem set_same {α : Type} {l : List α} {j : Nat} {x : α} (h : l[j]? = some x) : l.set j x = l := by
  apply List.ext_getElem?
  intro i
  by_cases e : j = i
  · subst e
    rw [List.getElem?_set_self (List.getElem?_eq_some_iff.1 h).1, h]
  · rw [List.getElem?_set_ne e]
/-- a block reads as one map -/
theorem own_one {n n' : Nat} {D D' : DataW Value} (h : w.ownsMap P k rid b n D) (h' : w.ownsMap P k rid b n' D') : D = D' := by
  obtain ⟨es, c, h1, _, _, rfl⟩ := h
  obtain ⟨es', c', h1', _, _, rfl⟩ := h'
  rw [h1] at h1'
  cases h1'
  rfl
theorem ranges_iter {cs : Array Value} {ty : TypeId} {fr : Nat × Nat} (h : w.ranges P k rid b r n D left cnt) (e : w.heap[r]? = some (.cells cs ty fr)) : False := by
  obtain ⟨es, clock, since, seen, c0, _, _, _, _, hr, _⟩ := h
  rw [hr] at e
  cases e
theorem left_len (es : Array MapEntry) (seen : Array Nat) : (leftOf es seen).size = ((es.toList.map (·.born)).filter fun x => !seen.contains x).length := by
  unfold leftOf
  rw [← Array.length_toList, Array.toList_filter, List.filter_map, List.length_map]
  rfl
/-- 'm[a] = v' in a round, a a key that is there -/
theorem ranges_turn (h : w.ranges P k rid b r n D left cnt) (K : Keyed P k) (ht : P.underlying t = some (.map k e)) (hn : n < maxLen) {key val : Value} {kl : Lit} (hkey : keyOf P k key = some kl) (hhas : has D kl = true) :
    ∃ w', (Instr.mapUpdate t (.map (some b)) key val).run P w = .ok () w' ∧ w'.ranges P k rid b r n (D.put kl (.held val)) left cnt ∧ w.mapTurned w' b := by
  have hne := h.ne
  obtain ⟨es, clock, since, seen, c0, hb, F, hs, rfl, hr, hold, hc, hl1, hl2, hsc, hsk⟩ := h
  rcases K.find w hkey es.toList F.keys with ⟨h1, h2⟩ | ⟨j, e0, h1, h2, h3⟩
  · exfalso
    rw [has_eq] at hhas
    obtain ⟨p, hp, hpk⟩ := List.any_eq_true.1 hhas
    obtain ⟨x, hx, rfl⟩ := List.mem_map.1 (mem_sorted.1 hp)
    obtain ⟨y, hy⟩ := F.reads x hx
    have m1 := rd_key hy
    have m2 := WideAt.sameKey_eq hpk
    rw [rg_of hy] at m2
    rw [m2] at m1
    exact h2 x hx (K.inj m1 hkey)
  · have hj : es[j]? = some e0 := by simpa using h2
    have hrun2 : (Instr.mapUpdate t (.map (some b)) key val).run P w = .ok () (setBlock w b (.map (es.modify j (fun e' => { e' with key := key, val := val })) clock)) := by
      simp [Instr.mapUpdate, run_underlying ht, MapKept.run_getObj_map hb, K.check w false hkey, h1, hj, h3, K.stays w hkey, MapKept.run_setObj_map _ hb, Result.andThen, setBlock]
    obtain ⟨es', clock', hrun, F', hput, _, _, hwho⟩ := fit_store (R' := rid) K ht hb F (Nat.lt_of_le_of_lt hs hn) (fun _ _ _ _ hz => hz) hkey (show rid val = some (.held val, []) from rfl)
    have heq : some (Obj.map es' clock') = some (Obj.map (es.modify j (fun e' => { e' with key := key, val := val })) clock) := by
      have := hrun.symm.trans hrun2
      injection this with _ hw
      have e1 := heap_setBlock_same hb (.map es' clock')
      have e2 := heap_setBlock_same hb (.map (es.modify j (fun e' => { e' with key := key, val := val })) clock)
      rw [← e1, ← e2, hw]
    obtain ⟨hes, hcl⟩ : es' = es.modify j (fun e' => { e' with key := key, val := val }) ∧ clock' = clock := by simpa using heq
    subst hcl
    have hlist : es'.toList = es.toList.set j { e0 with key := key, val := val } := by rw [hes, Array.toList_modify, modify_eq_set _ _ _ _ h2]
    have hborn : es'.toList.map (·.born) = es.toList.map (·.born) := by
      rw [hlist, List.map_set]
      have : (es.toList.map (·.born))[j]? = some e0.born := by rw [List.getElem?_map, h2]; rfl
      exact set_same this
    have hsz : es'.size = es.size := by rw [hes]; simp
    have he0 : e0 ∈ es.toList := List.mem_of_getElem? h2
    have hnew : rd P k rid { e0 with key := key, val := val } = some (kl, .held val) := Go.WideElems.rd_mk (born := e0.born) hkey (show rid val = some (.held val, []) from rfl)
    have hrg0 : (rg P k rid e0).1 = kl := by
      obtain ⟨y, hy⟩ := F.reads e0 he0
      have m1 := rd_key hy
      rw [h3, hkey] at m1
      rw [rg_of hy, ← Option.some.inj m1]
    have mem' : ∀ x, x ∈ es'.toList → x = { e0 with key := key, val := val } ∨ x ∈ es.toList := by
      intro x hx
      rw [hlist] at hx
      rcases List.mem_or_eq_of_mem_set hx with h | h
      · exact .inr h
      · exact .inl h
    refine ⟨_, hrun, ⟨es', clock', since, seen, c0, heap_setBlock_same hb _, F', by rw [hsz]; exact hs, by rw [DataW.put_eq, hput], (heap_setBlock_other hb _ hne).trans hr, fun x hx => ?_, ?_, fun x hx => ?_, fun kl' hk' => ?_, hsc, hsk⟩, ⟨es, clock', es', clock', hb, rfl⟩⟩
    · rcases mem' x hx with rfl | hx
      · exact hold e0 he0
      · exact hold x hx
    · rw [left_len, hborn, ← left_len]; exact hc
    · rcases mem' x hx with rfl | hx
      · rw [rg_of hnew]
        show left kl = _
        rw [← hrg0]; exact hl1 e0 he0
      · exact hl1 x hx
    · obtain ⟨x, hx, hxk⟩ := hl2 kl' hk'
      obtain ⟨i, hi⟩ := List.getElem?_of_mem hx
      by_cases hij : i = j
      · subst hij
        rw [h2] at hi
        cases hi
        refine ⟨{ e0 with key := key, val := val }, ?_, ?_⟩
        · rw [hlist]
          exact List.mem_iff_getElem?.2 ⟨i, by rw [List.getElem?_set_self]; exact (List.getElem?_eq_some_iff.1 h2).1⟩
        · rw [rg_of hnew, ← hxk, hrg0]
      · refine ⟨x, ?_, hxk⟩
        rw [hlist]
        exact List.mem_iff_getElem?.2 ⟨i, by rw [List.getElem?_set_ne (Ne.symm hij)]; exact hi⟩
end
end Go.Proofs.YtkibkbbjpgomlaaDoor.Aid
namespace Go.Proofs.YtkibkbbjpgomlaaDoor.Aid
open Go.RowKit
set_option linter.unnecessarySimpa false
set_option linter.unusedSimpArgs false
set_option linter.unusedVariables false

/-- a variable of an aggregate's value: a new block -/
theorem wpList_boxN {P : Program} {ops : Array Oper} {rest : List Oper} {o : Oper} {a : Act} {Q : Exit → Act → World → Prop} (w : World)
    (hw : Region.wanted o (yielded ops a.tmps) = true) (t : TypeId) (x : Operand) (hop : o.op = Op.box t x) (cs : Array Value) (hx : a.eval x = .agg cs)
    (hK : ∀ w1, Blk w1 w.heap.size t cs → Below w.heap.size w w1 → w1.heap.size = w.heap.size + 1 → wpList P ops Q rest (a.put o.dst (.pointer (some ⟨w.heap.size, 0, none⟩))) w1) :
    wpList P ops Q (o :: rest) a w := by
  refine wpList_want hw fun K hK' => ?_
  unfold Oper.wp
  simp [execOp, hop, hx, Instr.box, newVar, newRow, Value.cells, newObj, Result.andThen]
  exact hK' _ _ (hK _ (Blk.alloc_new _ _ _) ((Below.refl _ _).alloc (Nat.le_refl _) _) (by simp))

/-- a variable that is nought: a new block -/
theorem wpList_allocN {P : Program} {ops : Array Oper} {rest : List Oper} {o : Oper} {a : Act} {Q : Exit → Act → World → Prop} (w : World)
    (hw : Region.wanted o (yielded ops a.tmps) = true) (t : TypeId) (hop : o.op = Op.alloc t) (i : TypeInfo) (hi : P.info? t = some i) (cs : Array Value) (hz : i.zero = some (.agg cs))
    (hK : ∀ w1, Blk w1 w.heap.size t cs → Below w.heap.size w w1 → w1.heap.size = w.heap.size + 1 → wpList P ops Q rest (a.put o.dst (.pointer (some ⟨w.heap.size, 0, none⟩))) w1) :
    wpList P ops Q (o :: rest) a w := by
  refine wpList_want hw fun K hK' => ?_
  unfold Oper.wp
  have hzv : (zeroValue t).run P w = .ok (.agg cs) w := by simp [zeroValue, typeInfo, hi, hz]
  simp [execOp, hop, Instr.alloc, hzv, newVar, newRow, Value.cells, newObj, Result.andThen]
  exact hK' _ _ (hK _ (Blk.alloc_new _ _ _) ((Below.refl _ _).alloc (Nat.le_refl _) _) (by simp))

/-- is it made of parts? -/
def aggD : TypeDesc → Bool
  | .struct _ | .array _ _ => true
  | _ => false
theorem run_loadVar_cells {P : Program} (w : World) (t : TypeId) (d : TypeDesc) (hu : P.underlying t = some d) (hd : aggD d = true) (b off : Nat) (vs : Array Value) (hi : (P.info? t).map (·.size) = some vs.size)
    (hc : ∀ j (hj : j < vs.size), w.cell? ⟨b, off + j, none⟩ = some vs[j]) : (loadVar t ⟨b, off, none⟩).run P w = .ok (.agg vs) w := by
  have hl : (loadCells ⟨b, off, none⟩ vs.toList.length).run P w = .ok vs.toList.toArray w :=
    run_loadCells_list (P := P) w ⟨b, off, none⟩ vs.toList (fun j v hv => by
      have hadd : (⟨b, off, none⟩ : Addr).add j = ⟨b, off + j, none⟩ := by unfold Addr.add; split <;> simp_all
      rw [hadd]
      obtain ⟨hj, hv⟩ := List.getElem?_eq_some_iff.1 hv
      rw [hc j (by simpa using hj), ← hv]; simp)
  cases hq : P.info? t with
  | none => simp [hq] at hi
  | some i =>
    simp [hq] at hi
    simp only [Array.length_toList, Array.toArray_toList] at hl
    have hag : (isAgg t).run P w = .ok true w := by
      unfold isAgg
      simp only [Sem.run_bind, run_underlying hu, Result.andThen_ok]
      cases d <;> simp_all [aggD]
    simp [loadVar, hag, sizeOf, typeInfo, hq, hi, hl, Result.andThen]

/-- a whole array's load -/
theorem wpList_loadN {P : Program} {ops : Array Oper} {rest : List Oper} {o : Oper} {a : Act} {Q : Exit → Act → World → Prop} (w : World)
    (hw : Region.wanted o (yielded ops a.tmps) = true) (t : TypeId) (x : Operand) (hop : o.op = Op.load t x) (d : TypeDesc) (hu : P.underlying t = some d) (hd : aggD d = true)
    (b off : Nat) (hx : a.eval x = .pointer (some ⟨b, off, none⟩)) (vs : Array Value) (hi : (P.info? t).map (·.size) = some vs.size)
    (hc : ∀ j (hj : j < vs.size), w.cell? ⟨b, off + j, none⟩ = some vs[j])
    (hK : wpList P ops Q rest (a.put o.dst (.agg vs)) w) : wpList P ops Q (o :: rest) a w := by
  refine wpList_want hw fun K hK' => ?_
  unfold Oper.wp
  simp [execOp, hop, hx, Instr.loadAt, Instr.sureAddr, Result.andThen, run_loadVar_cells w t d hu hd b off vs hi hc]
  exact hK' _ _ hK

theorem Blk.cells {w : World} {g : Nat} {t : TypeId} {cs : Array Value} (h : Blk w g t cs) : ∀ j (hj : j < cs.size), w.cell? ⟨g, 0 + j, none⟩ = some cs[j] := fun j hj => by
  rw [Nat.zero_add, h.cell]; exact Array.getElem?_eq_getElem hj

theorem Blk.row {w : World} {g : Nat} {t : TypeId} {cs : Array Value} (h : Blk w g t cs) (ds : Array Value) : Blk (w.setRow g ds) g t ds := by
  unfold Blk at h ⊢
  simp [World.setRow, Array.getElem?_modify, h]
theorem Below.row {B g : Nat} {a w : World} (h : Below B a w) (hg : B ≤ g) (ds : Array Value) : Below B a (w.setRow g ds) :=
  ⟨h.os, h.tape, h.output, by simpa [World.setRow] using h.size, fun k hk => by
    rw [← h.block k hk]
    simp only [World.setRow, Array.getElem?_modify]
    rw [if_neg (by omega)]⟩

/-- a whole array's store -/
theorem wpList_storeN {P : Program} {ops : Array Oper} {rest : List Oper} {o : Oper} {a : Act} {Q : Exit → Act → World → Prop} (w : World)
    (hw : Region.wanted o (yielded ops a.tmps) = true) (t : TypeId) (x v : Operand) (hop : o.op = Op.store t x v) (hdst : o.dst = none)
    (g : Nat) (hx : a.eval x = .pointer (some ⟨g, 0, none⟩)) (T : TypeId) (old vs : Array Value) (hb : Blk w g T old) (hv : a.eval v = .agg vs) (hi : (P.info? t).map (·.size) = some vs.size) (ho : old.size = vs.size) (h1 : vs.all (·.oneCell') = true)
    (hK : ∀ w1, Blk w1 g T vs → Below g w w1 → w1.heap.size = w.heap.size → (∀ k, k ≠ g → w1.heap[k]? = w.heap[k]?) → wpList P ops Q rest a w1) : wpList P ops Q (o :: rest) a w := by
  refine wpList_want hw fun K hK' => ?_
  unfold Oper.wp
  simp [execOp, hop, hx, hv, Instr.storeAt, Instr.sureAddr, Result.andThen, run_storeVar_row w g T t old vs hb hi ho h1]
  have e : a.put o.dst undef = a := by rw [hdst]; rfl
  show K (a.put o.dst undef) _
  rw [e]
  refine hK' _ _ (hK _ (hb.row _) (Below.row (Below.refl _ _) (Nat.le_refl _) _) (by simp [World.setRow]) fun k hk => ?_)
  simp only [World.setRow, Array.getElem?_modify]
  rw [if_neg (fun e => hk e.symm)]

/-- a result that lies in a block -/
theorem results_cellN {P : Program} {fn : Func} {p : Tmp} {ty : TypeId} (h : fn.results = #[.cell p ty]) (tmps : Array Value) (w : World) (g : Nat) (hp : tmps.getD p undef = .pointer (some ⟨g, 0, none⟩))
    (T : TypeId) (vs : Array Value) (hb : Blk w g T vs) (d : TypeDesc) (hu : P.underlying ty = some d) (hd : aggD d = true) (hi : (P.info? ty).map (·.size) = some vs.size) :
    (results fn tmps).run P w = .ok (.agg vs) w := by
  rw [Array.getD_eq_getD_getElem?] at hp
  simp [results, h, hp, asAddr, Result.andThen, run_loadVar_cells w ty d hu hd g 0 vs hi hb.cells]

/-! ### rows of small numbers -/

/-- cells of small numbers -/
def u8A (n : Nat) (f : Nat → Nat) : Array Value := Array.ofFn (n := n) fun j => .int .u8 (f j)
theorem u8A_size (n : Nat) (f : Nat → Nat) : (u8A n f).size = n := by simp [u8A]
theorem u8A_at (n : Nat) (f : Nat → Nat) (j : Nat) (h : j < (u8A n f).size) : (u8A n f)[j] = .int .u8 (f j) := by simp [u8A]
theorem u8A_get (n : Nat) (f : Nat → Nat) (j : Nat) (h : j < n) : (u8A n f)[j]? = some (.int .u8 (f j)) := by simp [u8A, h]
theorem u8A_all (n : Nat) (f : Nat → Nat) : (u8A n f).all (·.oneCell') = true := by
  rw [Array.all_eq_true]
  intro i hi
  rw [u8A_at]; rfl
theorem u8A_set (n : Nat) (f : Nat → Nat) (j x : Nat) : (u8A n f).setIfInBounds j (.int .u8 x) = u8A n (fun i => if i = j then x else f i) := by
  apply Array.ext
  · simp [u8A]
  · intro i h1 h2
    rw [u8A_at, Array.getElem_setIfInBounds, u8A_at]
    · by_cases h : j = i
      · subst h; simp
      · rw [if_neg h, if_neg (fun e => h e.symm)]
    · simpa using h1
theorem u8A_ext {n : Nat} {f g : Nat → Nat} (h : ∀ j, j < n → f j = g j) : u8A n f = u8A n g := by
  apply Array.ext
  · simp [u8A]
  · intro i h1 h2
    rw [u8A_at, u8A_at, h i (by simpa [u8A] using h1)]
theorem u8A_inj {n : Nat} {f g : Nat → Nat} (h : u8A n f = u8A n g) : ∀ j, j < n → f j = g j := by
  intro j hj
  have := congrArg (·[j]?) h
  simp only [u8A_get _ _ _ hj, Option.some.injEq, Value.int.injEq, true_and] at this
  omega

theorem run_eqItems_u8 {P : Program} {e : TypeId} (d : Nat) (he : P.underlying e = some (.int .u8)) (hc : P.cellsOf e = 1) (n : Nat) (f g : Nat → Nat) (w : World) : ∀ is : List Nat, (∀ i ∈ is, i < n) →
    (Op.eqItems (d + 1) e (P.cellsOf e) (u8A n f) (u8A n g) is).run P w = .ok (is.all fun i => f i == g i) w
  | [], _ => by simp [Op.eqItems]
  | i :: is, hi => by
    have h0 := hi i (by simp)
    have ih := run_eqItems_u8 d he hc n f g w is (fun x hx => hi x (by simp [hx]))
    have hp : ∀ f : Nat → Nat, (part e (u8A n f) (i * 1)).run P w = .ok (.int .u8 (f i)) w := fun f => by
      simp [part, isAgg, run_underlying he, u8A_get n f i h0, Result.andThen]
    rw [hc] at ih ⊢
    simp only [Op.eqItems, Sem.run_bind, hp, Result.andThen_ok]
    have hq : (Op.equalIn (d + 1) e (.int .u8 (f i)) (.int .u8 (g i))).run P w = .ok (f i == g i) w := by
      simp [Op.equalIn, run_underlying he, Result.andThen]
      rw [Bool.eq_iff_iff]; simp only [beq_iff_eq]; omega
    rw [hq]
    simp only [Result.andThen_ok]
    by_cases h : f i = g i
    · simp [h, ih]
    · simp [h]
theorem run_equal_u8 {P : Program} {t e : TypeId} {n : Nat} (hu : P.underlying t = some (.array n e)) (i : TypeInfo) (hi : P.info? e = some i) (he : P.underlying e = some (.int .u8)) (hc : P.cellsOf e = 1) (f g : Nat → Nat) (w : World) :
    (Op.equal t (.agg (u8A n f)) (.agg (u8A n g))).run P w = .ok ((List.range n).all fun i => f i == g i) w := by
  unfold Op.equal Op.maxDepth
  rw [run_equalIn_array w 9999 _ _ hu hi]
  exact run_eqItems_u8 9998 he hc n f g w _ (by simp)
theorem all_u8 {n : Nat} {f g : Nat → Nat} : ((List.range n).all fun i => f i == g i) = true ↔ ∀ j, j < n → f j = g j := by simp
end Go.Proofs.YtkibkbbjpgomlaaDoor.Aid
namespace Go.Proofs.YtkibkbbjpgomlaaDoor.Aid
section
variable {F : Fence} {n : Nat} {P : Program} {ops : Array Oper} {C : World → Prop}
/-- no operation is a deferred call's -/
def noDefer (l : List Oper) : Bool := l.all fun o => match o.op with | .defer _ => false | _ => true
theorem noDefer.at_ {l : List Oper} (h : noDefer l = true) {o : Oper} (ho : o ∈ l) (c : Go.Call) : o.op ≠ .defer c := fun e => by
  have := List.all_eq_true.1 h o ho
  rw [e] at this
  cases this
/-- one operation that reads is well at any fence, in a round too -/
theorem quiet_oper {o : Oper} {a : Act} {K : Act → Prop} {K' : Act → World → Prop} {Q' : Exit → Act → World → Prop} {w : World} (hd : ∀ c, o.op ≠ .defer c) (hw : C w)
    (hK : ∀ a w', C w' → K a → K' a w') (ha : o.askedIn F P a C) (hq : o.quietIn F n P a C K) : o.wpIn F n P a w K' Q' := by
  obtain ⟨v, hv, hk⟩ := hq
  have hv := hv w hw
  unfold Oper.quietAtIn at hv
  refine ⟨ha w hw, ?_⟩
  rw [Oper.semAt_plain F _ o hd]
  cases hr : (execOp a.eval o).run P w with
  | halt x w' => rw [hr] at hv; simp only [Oper.quietUponIn] at hv
  | ok x w' =>
    rw [hr] at hv
    cases x with
    | value u =>
      simp only [Oper.quietUponIn] at hv
      simp only [Oper.uponIn]
      rw [hv.1, hv.2]
      exact hK _ _ hw hk
    | skip =>
      simp only [Oper.quietUponIn] at hv
      simp only [Oper.uponIn]
      rw [hv.1, ← hv.2]
      exact hK _ _ hw hk
    | enter f args =>
      simp only [Oper.quietUponIn] at hv
      simp only [Oper.uponIn]
      obtain ⟨e1, e2, e3⟩ := hv
      rw [e1]
      refine ⟨e2, e3.mono ?_⟩
      rintro e w'' ⟨rfl, hc⟩
      exact hK _ _ hc hk
    | _ => simp only [Oper.quietUponIn] at hv
theorem quiet_row {i : Nat} {a : Act} {K : Act → Prop} {K' : Act → World → Prop} {Q' : Exit → Act → World → Prop} {w : World} (hd : ∀ o, o ∈ ops.toList → ∀ c, o.op ≠ .defer c) (hw : C w)
    (hK : ∀ a w', C w' → K a → K' a w') (hq : qOpIn F n P ops C i K a) : wpOpIn F n P ops Q' i K' a w := by
  unfold qOpIn at hq
  unfold wpOpIn
  cases ho : ops[i]? with
  | none => rw [ho] at hq; exact hK _ _ hw hq
  | some o =>
    rw [ho] at hq
    dsimp only at hq ⊢
    have hm : o ∈ ops.toList := Array.mem_toList_iff.2 (Array.mem_of_getElem? ho)
    by_cases hx : Region.wanted o (yielded ops a.tmps) = true
    · rw [if_pos hx] at hq ⊢
      exact quiet_oper (hd o hm) hw hK hq.1 hq.2
    · rw [if_neg hx] at hq ⊢
      exact ⟨hq.1 w hw, hK _ _ hw hq.2⟩
theorem quiet_all {md : Region.Mode} {Q : Act → Prop} {Q' : Exit → Act → World → Prop} (hd : ∀ o, o ∈ ops.toList → ∀ c, o.op ≠ .defer c) (hQ : ∀ a w, C w → Q a → Q' .normal a w) (fuel : Nat) :
    ∀ (listed : Array Bool) (a : Act) (w : World), C w → wpAnyQIn F n P md ops C Q fuel listed a → wpAnyIn F n P md ops Q' fuel listed a w := by
  induction fuel with
  | zero => exact fun listed a w hw h => ⟨h.1, hQ _ _ hw h.2⟩
  | succ fuel ih => exact fun listed a w hw h => ⟨fun h0 => hQ _ _ hw (h.1 h0), fun i hi => quiet_row hd hw (fun a' w' hc hk => ih _ a' w' hc hk) (h.2 i hi)⟩
theorem quiet_round {id : Nat} {Q : Exit → Act → World → Prop} {a : Act} {w : World} {l : List Oper} (hd : noDefer l = true) (hm : P.follows .mixedOrders = true) (hB : Region.lexB .any l.toArray = true)
    (h : wpQuietIn F n P l.toArray (fun w' => ∃ n, w' = w.drewN n) (fun a' => ∀ w', (∃ n, w' = w.drewN n) → Q .normal a' w') l a) : (Code.region id l.toArray true).wpIn F n P Q a w := by
  have hB2 := hB
  simp only [Region.lexB, Bool.and_eq_true] at hB2
  refine wpIn_region_any hm (quiet_all (C := fun w' => ∃ n, w' = w.drewN n) (Q := fun a' => ∀ w', (∃ n, w' = w.drewN n) → Q .normal a' w') (fun o ho c => noDefer.at_ hd (by simpa using ho) c)
    (fun _ w' hc hh => hh w' hc) _ _ _ _ ⟨1, rfl⟩ ?_)
  have hx := wpAnyQIn_lex (F := F) (n := n) (P := P) (ops := l.toArray) (md := .any) hB2.1 l 0 (Array.replicate l.toArray.size false) a (by simp) (by simpa using hB2.2) h
  simpa using hx
end
end Go.Proofs.YtkibkbbjpgomlaaDoor.Aid
namespace Go.Proofs.YtkibkbbjpgomlaaDoor.Aid
open Go.ChangeShapes Go.WideShapes Go.ChangeAt Go.RowKit
set_option linter.unusedVariables false

theorem trodAll_below {H : Type} {enc : TypeId × Value → H} {P : Program} (hl : laidOutB P = true) {W W' : World} (hb : Below W.heap.size W W') :
    ∀ (ts : List TypeId) (vs : List Value) (ds : List (DataW H)) (ps : List MemPlace), (∀ t ∈ ts, P.readableRec t = true ∧ t < P.types.size) →
      DataW.TrodAll enc P W 0 (fun _ => true) true ts vs ds ps → (∀ x ∈ ps, x.block < W.heap.size) → DataW.TrodAll enc P W' 0 (fun b => decide (b < W.heap.size)) true ts vs ds ps := by
  intro ts
  induction ts with
  | nil =>
    intro vs ds ps _ h _
    obtain ⟨rfl, rfl, rfl⟩ := trodAll_nil h
    rfl
  | cons t ts ih =>
    intro vs ds ps hr h hlt
    obtain ⟨v, vs', d, ds', p, q, rfl, rfl, rfl, h1, h2⟩ := trodAll_cons h
    have hr0 := hr t (by simp)
    exact trodAll_cons_mk (Below.trod hl hr0.1 hr0.2 h1 hb (fun x hx => hlt x (by simp [hx]))) (ih vs' ds' q (fun t ht => hr t (by simp [ht])) h2 (fun x hx => hlt x (by simp [hx])))

/-- A LAW's POST: true; the arguments read as they did; nothing that was there has turned. -/
theorem law_post {H : Type} {enc : TypeId × Value → H} {P : Program} {fn : Func} {s : ChangeSpec} {W W' : World} {args : Array Value} {ds gs : List (DataW H)} {before : List MemPlace} (tb : TypeId)
    (hl : laidOutB P = true) (hr : ∀ t ∈ fn.params.toList, P.readableRec t = true ∧ t < P.types.size) (hres : fn.resultTypes = #[tb]) (ub : P.underlying tb = some .bool) (hv : s.vars = [])
    (hfn : s.fn H (ds ++ gs) = { results := [.lit (.bool true)], args := ds }) (hW : DataW.Whole enc P fn.params.toList s.vars false W args.toList ds gs before) (hb : Below W.heap.size W W') :
    s.post enc P fn false true false false W args (.bool true) W' := by
  have hW' := hW
  obtain ⟨p, q, hA, hV, rfl, hfz, hnd⟩ := hW
  rw [hv] at hV
  obtain ⟨rfl, rfl⟩ := trodVars_none hV
  refine ⟨ds, [], p ++ [], [], p, [], hW', ?_, ?_, ?_, hb.frame _, fun h => by cases h⟩
  · rw [hfn, hres]
    exact trodAll_mk1 (shut_bool ub _)
  · rw [hfn]
    exact trodAll_below hl hb _ _ _ _ hr hA (fun x hx => by simpa using hW'.lt x (by simpa using hx))
  · rw [hfn, hv]; rfl

/-- A SLICE OF INTEGERS THAT CAME IN. -/
theorem arg_ints {H : Type} {enc : TypeId × Value → H} {P : Program} {W : World} {b0 : Nat} {t e : TypeId} {k : IntKind} {v : Value} {d : DataW H} {p : List MemPlace} {r : Reach}
    (ht : P.underlying t = some (.slice e)) (he : P.underlying e = some (.int k)) (hc : P.cellsOf e = 1) (hval : Value.okWide P W r b0 t v)
    (h : DataW.Trod enc P W 0 (fun _ => true) true t v d p) (hlt : ∀ x ∈ p, x.block < W.heap.size) (hsize : ∀ elems spare, d = .slice elems spare → elems.length + spare.length ≤ 140737488355328) :
    ∃ l, Ints W k v l ∧ (∀ x ∈ l, (Lit.int k x).wf = true) ∧ (d = .nil ∧ l = [] ∨ ∃ spare, d = .slice (lits k l) spare) := by
  obtain ⟨a0, len, cap, rfl⟩ := okWide_slice ht hval
  obtain ⟨fuel, hf⟩ := h
  rcases open_ints ht he hc hf with ⟨hcs, hx⟩ | ⟨a, len', cap', zs, hcs, hab, hl, hm, hz, hx, hcell, hwz⟩
  · simp [Value.cells] at hcs
    obtain ⟨rfl, rfl, rfl⟩ := hcs
    simp only [Prod.mk.injEq] at hx
    exact ⟨[], Ints.nil _ _, by simp, .inl ⟨hx.1, rfl⟩⟩
  · simp [Value.cells] at hcs
    obtain ⟨rfl, rfl, rfl⟩ := hcs
    simp only [Prod.mk.injEq] at hx
    simp only [if_true] at hz
    have h1 := hsize _ _ hx.1
    simp only [lits, List.length_map, List.length_take, List.length_drop] at h1
    refine ⟨zs.take len, ?_, fun x hx => hwz x (List.mem_of_mem_take hx), .inr ⟨_, hx.1⟩⟩
    by_cases h0 : len = 0
    · subst h0
      exact ⟨by simp, .inl ⟨by simp, .inr ⟨a, cap, rfl⟩⟩⟩
    · have hlz : len ≤ zs.length := by omega
      obtain ⟨b, off, rfl, hc'⟩ := ints_at hcell (by omega)
      have hlen : (zs.take len).length = len := by simp [hlz]
      refine ⟨by omega, .inr ⟨b, off, cap, by rw [hlen], ?_, ?_⟩⟩
      · refine hlt (.cell b off) ?_
        rw [hx.2]
        exact MemPlace.mem_row.2 ⟨0, by omega, by simp⟩
      · intro j hj
        rw [hlen] at hj
        have := hc' j (by omega)
        rw [this]
        simp only [List.getD_eq_getElem?_getD, List.getElem?_take]
        rw [if_pos hj]
end Go.Proofs.YtkibkbbjpgomlaaDoor.Aid
