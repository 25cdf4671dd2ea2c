/-
  DiskAgain: the row's step, the row.
-/
import Derived.Test.YteidmneenfdafaaRefCrD
import Derived.Test.YteidmneenfdafaaShut
import Derived.JoinedCond
namespace Go.Proofs.Yteidmneenfdafaa.cDiskAgain
open Go.ChangeShapes Go.WideShapes Go.ChangeAt Go.RowKit Aid
open Go.ChangeMaps (open_string shut_string)
open K R
set_option linter.unusedVariables false
set_option linter.unusedSimpArgs false
theorem own : ownKnob Try.prog.godebug = none := by kernel_rfl
theorem laidOut : laidOutB Try.prog = true := by kernel_rfl
theorem readable : ∀ t ∈ Try.f10.params.toList, Try.prog.readableRec t = true ∧ t < Try.prog.types.size := by
  intro t ht
  rw [Try.params10] at ht
  simp only [List.mem_cons, List.not_mem_nil, or_false] at ht
  rcases ht with rfl | rfl | rfl
  all_goals exact ⟨by kernel_rfl, of_decide_eq_true (by kernel_rfl)⟩
theorem cells_li : Try.prog.cellsOf 3 = 1 := by kernel_rfl
theorem bytes_li : Try.prog.bytesOf 3 = 8 := by kernel_rfl
/-- a slice's length is within its room -/
theorem arg_cap {H : Type} {enc : TypeId × Value → H} {P : Program} {W : World} {base : Nat} {sp : Nat → Bool} {held : Bool} {t e : TypeId} {v : Value} {d : DataW H} {p : List MemPlace}
    (ht : P.underlying t = some (.slice e)) (h : DataW.Trod enc P W base sp held t v d p) {a : Option Addr} {len cap : Nat} (hv : v = .slice a len cap) : len ≤ cap := by
  obtain ⟨fuel, hf⟩ := h
  subst hv
  rcases DataW.trod_slice ht hf with ⟨hcs, _⟩ | ⟨a', len', cap', _, _, _, _, hcs, _, _, hl, _⟩
  · simp [Value.cells] at hcs; omega
  · simp [Value.cells] at hcs; omega
set_option maxRecDepth 100000 in
theorem contract (H : Type) (enc : TypeId × Value → H) (W : World) (base : Nat) (args : Array Value) (ds gs : List (DataW H)) (before : List MemPlace)
    (hval : ∀ (j : Nat) t v, Try.f10.params[j]? = some t → args[j]? = some v → Value.okWide Try.prog W .any base t v)
    (hW : DataW.Whole enc Try.prog Try.f10.params.toList Rows.diskAgainSpec.vars false W args.toList ds gs before)
    (hsz : (DataW.weightsEach Try.prog (Try.f10.params.toList ++ []) (ds ++ gs)).all (· ≤ reachBytes) = true) :
    Calls Try.prog 10 args W fun e W' => ∃ v, e = .returned v ∧ Rows.diskAgainSpec.post enc Try.prog Try.f10 false true false false W args v W' := by
  have hW' := hW
  obtain ⟨p, q, hA0, hV, rfl, hfz, hnd⟩ := hW
  have hA : DataW.TrodAll enc Try.prog W 0 (fun _ => true) true Try.f10.params.toList args.toList ds p := hA0
  have hlt : ∀ x ∈ p, x.block < W.heap.size := fun x hx => by simpa using hW'.lt x (by simp [hx])
  rw [Try.params10] at hA hval hsz
  obtain ⟨v0, vs0, d0, ds0, p0, q0, hargs, rfl, rfl, h0, r0⟩ := trodAll_cons hA
  obtain ⟨v1, vs1, d1, ds1, p1, q1, rfl, rfl, rfl, h1, r1⟩ := trodAll_cons r0
  obtain ⟨v2, vs2, d2, ds2, p2, q2, rfl, rfl, rfl, h2, r2⟩ := trodAll_cons r1
  obtain ⟨rfl, rfl, rfl⟩ := trodAll_nil r2
  obtain rfl : args = #[v0, v1, v2] := by cases args; simp_all
  obtain ⟨rfl, rfl⟩ := trodVars_none hV
  clear hA0
  obtain ⟨room, rfl, rfl, rfl, wroom⟩ := open_int Try.underlying3 (hval 0 3 v0 rfl rfl) h0
  have cO : Try.prog.cellsOf 30 = 4 := by kernel_rfl
  have bO : Try.prog.bytesOf 30 = 48 := by kernel_rfl
  have bU : Try.prog.bytesOf 5 = 1 := by kernel_rfl
  obtain ⟨n, f, hOps⟩ := OpsAre.arg Try.underlying22 Try.underlying30 cO rfl rfl rfl rfl (by kernel_rfl) (by kernel_rfl) (by kernel_rfl) (by kernel_rfl) Try.underlying3 Try.underlying27 Try.underlying3 Try.underlying28 Try.underlying5 (by kernel_rfl) bO bU (hval 1 22 v1 rfl rfl) h1 (fun x hx => hlt x (by simp [hx])) (fun x hx => by
    have := List.all_eq_true.1 hsz x (DataW.weights_mem_each (j := 1) (t := 22) rfl rfl x hx)
    simpa using this)
  obtain ⟨picks, hIpicks, hwpicks, hdpicks⟩ := arg_ints (k := .i64) Try.underlying50 Try.underlying3 cells_li (hval 2 50 v2 rfl rfl) h2 (fun x hx => hlt x (by simp [hx])) (fun elems spare hd => by
    subst hd
    have := sized_slice hsz (j := 2) (t := 50) (e := 3) rfl rfl Try.underlying50
    rw [bytes_li] at this
    simp only [reachBytes] at this
    omega)
  have hnpicks : picks.length * 8 ≤ 140737488351232 := by
    rcases hdpicks with ⟨_, rfl⟩ | ⟨spare, hd⟩
    · simp
    · subst hd
      have := sized_slice hsz (j := 2) (t := 50) (e := 3) rfl rfl Try.underlying50
      rw [bytes_li] at this
      simp only [reachBytes, lits, List.length_map] at this
      omega
  obtain ⟨va, vc, hv2⟩ := Ints.form hIpicks
  have hcap := arg_cap Try.underlying50 h2 hv2
  subst hv2
  refine (again_law room v1 n f (.slice va picks.length vc) picks W hOps (by simp [Lit.wf, IntKind.min, IntKind.max, IntKind.signed, IntKind.bits] at wroom; omega) hIpicks hcap hwpicks hnpicks).mono fun e W' ⟨he, hb⟩ => ⟨_, he, law_post 4 laidOut readable rfl Try.underlying4 rfl rfl hW' hb⟩
set_option maxRecDepth 100000 in
theorem lifted (os : Os) (started : os.Started) (H : Type) (enc : TypeId × Value → H) :
    ReturnsInHanded {} Try.checked os 10 .any (Rows.diskAgainSpec.pre6 enc Try.prog Try.f10 Rows.diskAgainRow.domain false) (Rows.diskAgainSpec.post enc Try.prog Try.f10 false true false false) := by
  refine returnsInHanded_of_change_sized (C := Try.checked) own started (by kernel_rfl) Try.func10
    (ChangeSpec.witness6 (enc := enc) (C := Try.checked) false ⟨#[], #[.int .i64 0, .slice none 0 0, .slice none 0 0], []⟩ 8 (by kernel_rfl) (by kernel_rfl) (by kernel_rfl) (by kernel_rfl)) ?_
  intro W base args ds gs before hval hW _ hsz _
  exact contract H enc W base args ds gs before hval hW hsz
theorem said : Rows.DiskAgainSaid :=
  OpenClaim.holds_of_wide 10 Try.f10 rfl rfl rfl rfl rfl rfl rfl ⟨rfl, rfl, rfl, rfl, rfl⟩ rfl rfl rfl rfl rfl (by kernel_rfl) Try.func10 (by kernel_rfl)
    (of_decide_eq_true (by kernel_rfl)) (by unfold Func.isWrapper; first | (rw [if_pos (by decide +kernel)]; kernel_rfl) | (rw [if_neg (by decide +kernel)]; exact ⟨rfl, rfl⟩))
    (fun os started H enc _ => lifted os started H enc)
end Go.Proofs.Yteidmneenfdafaa.cDiskAgain
