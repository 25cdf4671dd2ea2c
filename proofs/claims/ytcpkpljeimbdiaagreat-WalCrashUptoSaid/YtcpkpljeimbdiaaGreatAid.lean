/-
  Small laws for walks, over any program: a conversion of a string to bytes, a slice of integers that reads as a list. No function of the program is in sight.
-/
import Derived.Test.YtcpkpljeimbdiaaGreatRows
import Derived.WalkKit
import Derived.WalkLawsBesides
import Derived.WalkSpells
import Derived.ProofKit
import Derived.Laws.IdiomStrings
import Derived.Laws.BytesArg
import Derived.Laws.AppendOwnNone
import Derived.OpenShut
namespace Go.Proofs.YtcpkpljeimbdiaaGreat.Aid
open Go.RowKit
set_option linter.unnecessarySimpa false
set_option linter.unusedSimpArgs false
set_option linter.unusedVariables false

theorem below_grown {W w w' : World} {B : Nat} {row : Option Nat} (h : Below B W w) (hg : w.grownBy w' row) (hB : B ≤ w.heap.size) (hr : ∀ k, row = some k → B ≤ k) : Below B W w' := h.grown hg hB hr

/-- 'x := []byte(s)': a new block holds the bytes. -/
theorem wpList_bytes {P : Program} {ops : Array Oper} {rest : List Oper} {o : Oper} {a : Act} {Q : Exit → Act → World → Prop} (w : World)
    (hg : o.guard = none) (src dst : TypeId) (x : Operand) (hop : o.op = Op.convert src dst x) (e : TypeId)
    (hs : P.underlying src = some .string) (hd : P.underlying dst = some (.slice e)) (he : P.underlying e = some (.int .u8))
    (s : ByteArray) (hx : a.eval x = .string s) (n : Nat) (hn : s.size = n)
    (hK : ∀ g cap w1, n ≤ cap → w.heap.size ≤ g → g < w1.heap.size → Below w.heap.size w w1 → (∀ j (hj : j < s.size), w1.cell? ⟨g, j, none⟩ = some (.int .u8 ((s[j]'hj).toNat : Int))) →
      wpList P ops Q rest (a.put o.dst (.slice (some ⟨g, 0, none⟩) n cap)) w1) : wpList P ops Q (o :: rest) a w := by
  subst hn
  refine wpList_plain hg fun K hK' => ?_
  have hrun := run_bytes_of_string (P := P) w src dst e s hs hd he
  unfold Oper.wp
  simp [execOp, hop, hx, hrun, Result.andThen]
  refine hK' _ _ (hK w.heap.size _ _ (grownCap_ge w s.size 0 e) (Nat.le_refl _) (by simp) ((Below.refl _ _).drew.alloc (by simp) _) ?_)
  intro j hj
  have h1 := World.cell?_alloc_mark w.drew (bytesRow s (grownCap w s.size 0 e)) e ((bytesRow s (grownCap w s.size 0 e)).size, (bytesRow s (grownCap w s.size 0 e)).size + 1) j
  have h2 := bytesRow_at s (grownCap w s.size 0 e) j hj
  rw [h2] at h1
  exact h1
/-- how long the string in a slot is: for a loop's measure -/
def strLen : Value → Nat | .string t => t.size | _ => 0

theorem below_of_grown {B : Nat} {w w' : World} {row : Option Nat} (hg : w.grownBy w' row) (hB : B ≤ w.heap.size) (hr : ∀ k, row = some k → B ≤ k) : Below B w w' := (Below.refl B w).grown hg hB hr

/-- an owned row stays owned where nothing that was there has turned -/
theorem owns_below {w w' : World} {base : Nat} {e : TypeId} {size : Nat} {v : Value} {n : Nat} {xs : List Value} (h : w.ownsRow base e size v n xs) (hb : Below w.heap.size w w') : w'.ownsRow base e size v n xs := by
  obtain ⟨h1, h2⟩ := h
  refine ⟨h1, ?_⟩
  rcases h2 with h2 | ⟨g, cap, cur, hv, hg, hh, r⟩
  · exact Or.inl h2
  · refine Or.inr ⟨g, cap, cur, hv, hg, ?_, r⟩
    rw [hb.block g (Array.getElem?_eq_some_iff.1 hh).1]
    exact hh
/-- where an owned row begins: not below its base -/
theorem owns_base {w : World} {base : Nat} {e : TypeId} {size : Nat} {v : Value} {n : Nat} {xs : List Value} (h : w.ownsRow base e size v n xs) : ∀ k, v.ownBlock = some k → base ≤ k := by
  intro k hk
  rcases h.2 with ⟨rfl, _⟩ | ⟨g, cap, cur, rfl, hb, _⟩
  · simp [Value.ownBlock] at hk
  · simp [Value.ownBlock] at hk; omega
theorem cell_one {w : World} (x : Value) (t : TypeId) : ∀ j u, [x][j]? = some u → (w.alloc (.cells #[x] t)).cell? ((⟨w.heap.size, 0, none⟩ : Addr).add j) = some u := by
  intro j u hj
  match j, hj with
  | 0, hj =>
    simp at hj; subst hj
    simp [Addr.add]
  | j + 1, hj => simp at hj
theorem one_int {k : IntKind} {x : Int} : ∀ u ∈ [Value.int k x], u.oneCell' = true := by intro u hu; simp at hu; subst hu; rfl

theorem add_plain (g j : Nat) : (⟨g, 0, none⟩ : Addr).add j = ⟨g, j, none⟩ := by unfold Addr.add; split <;> simp_all
/-- bytes as cells -/
def bytesV (l : List UInt8) : List Value := l.map fun b => .int .u8 (b.toNat : Int)
theorem bytesV_append (l m : List UInt8) : bytesV (l ++ m) = bytesV l ++ bytesV m := by simp [bytesV]
theorem bytesV_length (l : List UInt8) : (bytesV l).length = l.length := by simp [bytesV]
theorem bytesV_one (l : List UInt8) : ∀ u ∈ bytesV l, u.oneCell' = true := by intro u hu; simp [bytesV] at hu; obtain ⟨b, _, rfl⟩ := hu; rfl

/-- 'string(b)': the cells' bytes. -/
theorem wpList_string {P : Program} {ops : Array Oper} {rest : List Oper} {o : Oper} {a : Act} {Q : Exit → Act → World → Prop} (w : World)
    (hg : o.guard = none) (src dst : TypeId) (x : Operand) (hop : o.op = Op.convert src dst x) (e : TypeId)
    (hs : P.underlying src = some (.slice e)) (hd : P.underlying dst = some .string) (he : P.underlying e = some (.int .u8))
    (g n cap : Nat) (l : List UInt8) (hx : a.eval x = .slice (some ⟨g, 0, none⟩) n cap) (hn : n = l.length) (hc : ∀ j (hj : j < l.length), w.cell? ⟨g, j, none⟩ = some (.int .u8 (l[j].toNat : Int)))
    (hK : wpList P ops Q rest (a.put o.dst (.string ⟨l.toArray⟩)) w) : wpList P ops Q (o :: rest) a w := by
  subst hn
  refine wpList_plain hg fun K hK' => ?_
  have hrun := run_convert_bytes_back (P := P) w src dst e ⟨g, 0, none⟩ cap l hs he hd (fun j hj => by rw [add_plain]; exact hc j hj)
  unfold Oper.wp
  simp [execOp, hop, hx, hrun, Result.andThen]
  exact hK' _ _ hK

/-- 'string(b)' of a row of the call's own, nil or not. -/
theorem wpList_string_own {P : Program} {ops : Array Oper} {rest : List Oper} {o : Oper} {a : Act} {Q : Exit → Act → World → Prop} (w : World)
    (hg : o.guard = none) (src dst : TypeId) (x : Operand) (hop : o.op = Op.convert src dst x) (e : TypeId)
    (hs : P.underlying src = some (.slice e)) (hd : P.underlying dst = some .string) (he : P.underlying e = some (.int .u8))
    (base : Nat) (v : Value) (l : List UInt8) (hx : a.eval x = v) (hown : w.ownsRow base e 1 v l.length (bytesV l))
    (hK : wpList P ops Q rest (a.put o.dst (.string ⟨l.toArray⟩)) w) : wpList P ops Q (o :: rest) a w := by
  rcases hown.2 with ⟨rfl, hl⟩ | ⟨g, cap, cur, rfl, hb, hg', hnc, hcm, hcs, htake⟩
  · have hl0 : l = [] := List.eq_nil_of_length_eq_zero (by simpa using hl)
    subst hl0
    refine wpList_plain hg fun K hK' => ?_
    have hrun := run_convert_bytes_nil (P := P) w src e hs he 0 0 dst hd
    unfold Oper.wp
    simp [execOp, hop, hx, hrun, Result.andThen]
    exact hK' _ _ hK
  · refine wpList_string w hg src dst x hop e hs hd he g l.length cap l hx rfl ?_ hK
    intro j hj
    have := hown.cells (g := g) rfl j (.int .u8 (l[j].toNat : Int)) (by simp [bytesV, List.getElem?_eq_getElem hj])
    rw [add_plain] at this; exact this

/-- a slice value whose elements read as a list of integers -/
def Ints (w : World) (k : IntKind) (v : Value) (l : List Int) : Prop := l.length ≤ 140737488355328 ∧ ((l = [] ∧ (v = .slice none 0 0 ∨ ∃ a cap, v = .slice (some a) 0 cap)) ∨
  (∃ b off cap, v = .slice (some ⟨b, off, none⟩) l.length cap ∧ b < w.heap.size ∧ ∀ j, j < l.length → w.cell? ⟨b, off + j, none⟩ = some (.int k (l.getD j 0))))
theorem Ints.below {w w' : World} {k : IntKind} {v : Value} {l : List Int} (h : Ints w k v l) (hb : Below w.heap.size w w') : Ints w' k v l := by
  obtain ⟨h0, h | ⟨b, off, cap, hv, hlt, hc⟩⟩ := h
  · exact ⟨h0, .inl h⟩
  · exact ⟨h0, .inr ⟨b, off, cap, hv, by have := hb.size; omega, fun j hj => (hb.cell (p := ⟨b, off + j, none⟩) hlt).trans (hc j hj)⟩⟩
theorem Ints.own {w : World} {base : Nat} {e : TypeId} {k : IntKind} {v : Value} {l : List Int} (h : w.ownsRow base e 1 v l.length (l.map (.int k))) (hl : l.length ≤ 140737488355328) : Ints w k v l := by
  refine ⟨hl, ?_⟩
  rcases h.2 with ⟨rfl, hn⟩ | ⟨g, cap, cur, rfl, hb, hg, hnc, hcm, hcs, htake⟩
  · exact .inl ⟨List.eq_nil_of_length_eq_zero (by simpa using hn), .inl rfl⟩
  · refine .inr ⟨g, 0, cap, rfl, (Array.getElem?_eq_some_iff.1 hg).1, ?_⟩
    intro j hj
    have := h.cells (g := g) rfl j (.int k (l.getD j 0)) (by simp [List.getElem?_eq_getElem hj])
    rw [add_plain] at this
    rw [Nat.zero_add]
    exact this

theorem Ints.nil (w : World) (k : IntKind) : Ints w k (.slice none 0 0) [] := ⟨by simp, .inl ⟨rfl, .inl rfl⟩⟩
theorem Ints.form {w : World} {k : IntKind} {v : Value} {l : List Int} (h : Ints w k v l) : ∃ a cap, v = .slice a l.length cap := by
  obtain ⟨_, ⟨rfl, rfl | ⟨a, cap, rfl⟩⟩ | ⟨b, off, cap, rfl, _⟩⟩ := h
  · exact ⟨none, 0, rfl⟩
  · exact ⟨_, cap, rfl⟩
  · exact ⟨_, cap, rfl⟩
/-- the cell of an element -/
theorem Ints.at_ {w : World} {K : IntKind} {a : Option Addr} {n cap : Nat} {l : List Int} (h : Ints w K (.slice a n cap) l) {k : Nat} (hk : k < l.length) {x : Int} (hx : l.getD k 0 = x) : ∃ b o, a = some ⟨b, o, none⟩ ∧ b < w.heap.size ∧ w.cell? ⟨b, o + k, none⟩ = some (.int K x) := by
  obtain ⟨_, ⟨rfl, _⟩ | ⟨b, o, c, hv, hlt, hc⟩⟩ := h
  · simp at hk
  · simp at hv; exact ⟨b, o, hv.1, hlt, by rw [← hx]; exact hc k hk⟩
/-- out of an argument's reading -/
theorem Ints.arg {w : World} {k : IntKind} (a : Addr) (len cap : Nat) (zs : List Int) (hb : a.block < w.heap.size) (hl : len ≤ zs.length) (hm : len ≤ 140737488355328) (hc : ∀ i, i < zs.length → w.cell? (a.add i) = some (.int k (zs.getD i 0))) : Ints w k (.slice (some a) len cap) (zs.take len) := by
  have hlen : (zs.take len).length = len := by simp [hl]
  refine ⟨by omega, ?_⟩
  by_cases h0 : len = 0
  · subst h0; exact .inl ⟨by simp, .inr ⟨a, cap, rfl⟩⟩
  · obtain ⟨b, off, rfl, hc'⟩ := ints_at hc (by omega)
    refine .inr ⟨b, off, cap, by rw [hlen], hb, fun j hj => ?_⟩
    rw [hc' j (by omega)]
    simp only [List.getD_eq_getElem?_getD, List.getElem?_take]
    rw [if_pos (by omega)]

theorem wpList_want {P : Program} {ops : Array Oper} {rest : List Oper} {o : Oper} {a : Act} {Q : Exit → Act → World → Prop} {w : World} (hw : Region.wanted o (yielded ops a.tmps) = true)
    (h : ∀ K : Act → World → Prop, (∀ a w, wpList P ops Q rest a w → K a w) → o.wp P a w K Q) : wpList P ops Q (o :: rest) a w := by
  unfold wpList; rw [if_pos hw]; exact .inl (h _ (fun _ _ h => h))

/-- 'append(v, u...)', v a row of the call's own, u whatever reads as a list of integers. -/
theorem wpList_append_ints {P : Program} {ops : Array Oper} {rest : List Oper} {o : Oper} {a : Act} {Q : Exit → Act → World → Prop} (w : World)
    (hw : Region.wanted o (yielded ops a.tmps) = true) (s x : Operand) (t : TypeId)
    (ho : o.op = .call { callee := .builtin .append, args := #[s, x], argTypes := #[t, t] })
    (base : Nat) (e : TypeId) (i : TypeInfo) (z : Value) (bytes : Nat) (ht : P.underlying t = some (.slice e)) (hi : P.info? e = some i) (hz : i.zero = some z)
    (hsize : i.size = 1) (hby : i.bytes = bytes) (hzs : z.cells.size = 1)
    (k : IntKind) (v : Value) (n : Nat) (xs : List Value) (hs : a.eval s = v) (hown : w.ownsRow base e 1 v n xs) (u : Value) (l : List Int) (hx : a.eval x = u) (hl : Ints w k u l)
    (h63 : n + l.length ≤ maxLen) (hbytes : (n + l.length) * bytes ≤ 140737488355328) (hbase : base ≤ w.heap.size)
    (h : ∀ v' w', w'.ownsRow base e 1 v' (n + l.length) (xs ++ l.map (.int k)) → Below base w w' → wpList P ops Q rest (a.put o.dst v') w') : wpList P ops Q (o :: rest) a w := by
  refine wpList_want hw fun K hK => ?_
  have go : ∀ (ad : Addr) (c : Nat), u = .slice (some ad) l.length c → (∀ j y, (l.map (Value.int k))[j]? = some y → w.cell? (ad.add j) = some y) → o.wp P a w K Q := by
    intro ad c hu hnews
    refine wp_append_own w s x t ho base e i z 1 bytes ht hi hz hsize hby hzs (by decide) v n xs hs hown ad l.length c (l.map (.int k)) (by rw [hx, hu]) (by simp) hnews ?_ h63 hbytes hbase ?_
    · intro y hy; obtain ⟨q, _, rfl⟩ := List.mem_map.1 hy; rfl
    · intro v' w' h2 h3 _
      exact hK _ _ (h v' w' h2 (below_of_grown h3 hbase (owns_base hown)))
  obtain ⟨_, ⟨rfl, rfl | ⟨ad, cap, rfl⟩⟩ | ⟨b, off, cap, rfl, hlt, hc⟩⟩ := hl
  · have hrun := run_append_owned_none (P := P) (w := w) base t o.type e i 1 ht hi v n xs hown
    unfold Oper.wp
    simp [execOp, ho, resolve, invoke, builtin, hs, hx, hrun, Result.andThen]
    exact hK _ _ (h v w (by simpa using hown) (Below.refl _ _))
  · exact go ad cap rfl (fun j y hj => by simp at hj)
  · refine go ⟨b, off, none⟩ cap rfl (fun j y hj => ?_)
    have hj' : j < l.length := by have := (List.getElem?_eq_some_iff.1 hj).1; simpa using this
    have hadd : (⟨b, off, none⟩ : Addr).add j = ⟨b, off + j, none⟩ := by unfold Addr.add; split <;> simp_all
    rw [hadd, hc j hj']
    simp [List.getElem?_eq_getElem hj'] at hj
    simp [List.getD_eq_getElem?_getD, List.getElem?_eq_getElem hj', hj]

theorem ext_at (s : ByteArray) (a b j : Nat) (h : j < (s.extract a b).size) (h' : a + j < s.size) : (s.extract a b)[j] = s[a + j] := by
  simp [ByteArray.getElem_eq_getElem_data, ByteArray.data_extract]
end Go.Proofs.YtcpkpljeimbdiaaGreat.Aid
