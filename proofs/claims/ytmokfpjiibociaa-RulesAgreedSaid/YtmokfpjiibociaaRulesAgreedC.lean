/-
  RulesAgreed: the row's step, the row.
-/
import Derived.Test.YtmokfpjiibociaaRulAgrW
import Derived.Test.YtmokfpjiibociaaRulOpen
import Derived.Test.YtmokfpjiibociaaShut
import Derived.JoinedCond
namespace Go.Proofs.Ytmokfpjiibociaa.cRulesAgreed
open Go.ChangeShapes Go.WideShapes Go.ChangeAt Go.RowKit Aid
open Go.ChangeMaps (open_string shut_string)
open R RA
set_option linter.unusedVariables false
set_option linter.unusedSimpArgs false
theorem own : ownKnob Try.prog.godebug = none := by kernel_rfl
theorem laidOut : laidOutB Try.prog = true := by kernel_rfl
theorem readable : ∀ t ∈ Try.f7.params.toList, Try.prog.readableRec t = true ∧ t < Try.prog.types.size := by
  intro t ht
  rw [Try.params7] at ht
  simp only [List.mem_cons, List.not_mem_nil, or_false] at ht
  rcases ht with rfl | rfl
  all_goals exact ⟨by kernel_rfl, of_decide_eq_true (by kernel_rfl)⟩
theorem cells_lu : Try.prog.cellsOf 22 = 1 := by kernel_rfl
theorem bytes_lu : Try.prog.bytesOf 22 = 8 := by kernel_rfl
set_option maxRecDepth 100000 in
theorem contract (H : Type) (enc : TypeId × Value → H) (W : World) (base : Nat) (args : Array Value) (ds gs : List (DataW H)) (before : List MemPlace)
    (hval : ∀ (j : Nat) t v, Try.f7.params[j]? = some t → args[j]? = some v → Value.okWide Try.prog W .any base t v)
    (hW : DataW.Whole enc Try.prog Try.f7.params.toList Rows.rulesAgreedSpec.vars false W args.toList ds gs before)
    (hsz : (DataW.weightsEach Try.prog (Try.f7.params.toList ++ []) (ds ++ gs)).all (· ≤ reachBytes) = true) :
    Calls Try.prog 7 args W fun e W' => ∃ v, e = .returned v ∧ Rows.rulesAgreedSpec.post enc Try.prog Try.f7 false true false false W args v W' := by
  have hW' := hW
  obtain ⟨p, q, hA0, hV, rfl, hfz, hnd⟩ := hW
  have hA : DataW.TrodAll enc Try.prog W 0 (fun _ => true) true Try.f7.params.toList args.toList ds p := hA0
  have hlt : ∀ x ∈ p, x.block < W.heap.size := fun x hx => by simpa using hW'.lt x (by simp [hx])
  rw [Try.params7] at hA hval hsz
  obtain ⟨v0, vs0, d0, ds0, p0, q0, hargs, rfl, rfl, h0, r0⟩ := trodAll_cons hA
  obtain ⟨v1, vs1, d1, ds1, p1, q1, rfl, rfl, rfl, h1, r1⟩ := trodAll_cons r0
  obtain ⟨rfl, rfl, rfl⟩ := trodAll_nil r1
  obtain rfl : args = #[v0, v1] := by cases args; simp_all
  obtain ⟨rfl, rfl⟩ := trodVars_none hV
  clear hA0
  have cC0 : Try.prog.cellsOf 40 = 1 := by kernel_rfl
  have cL0 : Try.prog.cellsOf 38 = 1 := by kernel_rfl
  have cI0 : Try.prog.cellsOf 3 = 1 := by kernel_rfl
  have bI0 : Try.prog.bytesOf 3 = 8 := by kernel_rfl
  obtain ⟨u, l, rfl, hIl, hwl, hdl⟩ := open_ints_box (k := .i64) Try.underlying40 cC0 rfl cL0 Try.underlying38 Try.underlying3 cI0 (hval 0 40 v0 rfl rfl) h0 (fun x hx => hlt x (by simp [hx])) (fun elems spare hd => by
    subst hd
    have := sized_box hsz (j := 0) (t := 40) (e := 3) rfl rfl Try.underlying40 Try.underlying38
    rw [bI0] at this
    simp only [reachBytes] at this
    omega)
  have hnl : l.length * 8 ≤ 140737488351232 := by
    rcases hdl with ⟨_, rfl⟩ | ⟨spare, hd⟩
    · simp
    · subst hd
      have := sized_box hsz (j := 0) (t := 40) (e := 3) rfl rfl Try.underlying40 Try.underlying38
      rw [bI0] at this
      simp only [reachBytes, lits, List.length_map] at this
      omega
  obtain ⟨m, hIm, hwm, hdm⟩ := arg_ints (k := .u64) Try.underlying41 Try.underlying22 cells_lu (hval 1 41 v1 rfl rfl) h1 (fun x hx => hlt x (by simp [hx])) (fun elems spare hd => by
    subst hd
    have := sized_slice hsz (j := 1) (t := 41) (e := 22) rfl rfl Try.underlying41
    rw [bytes_lu] at this
    simp only [reachBytes] at this
    omega)
  have hnm : m.length * 8 ≤ 140737488351232 := by
    rcases hdm with ⟨_, rfl⟩ | ⟨spare, hd⟩
    · simp
    · subst hd
      have := sized_slice hsz (j := 1) (t := 41) (e := 22) rfl rfl Try.underlying41
      rw [bytes_lu] at this
      simp only [reachBytes, lits, List.length_map] at this
      omega
  refine (agrees_law u v1 l m W hIl hIm (by omega) (fun x hx => by have := hwm x hx; simp [Lit.wf, IntKind.min, IntKind.max, IntKind.signed, IntKind.bits] at this; omega)).mono fun e W' ⟨he, hb⟩ => ⟨_, he, law_post 4 laidOut readable rfl Try.underlying4 rfl rfl hW' hb⟩
set_option maxRecDepth 100000 in
theorem lifted (os : Os) (started : os.Started) (H : Type) (enc : TypeId × Value → H) :
    ReturnsInHanded {} Try.checked os 7 .any (Rows.rulesAgreedSpec.pre6 enc Try.prog Try.f7 Rows.rulesAgreedRow.domain false) (Rows.rulesAgreedSpec.post enc Try.prog Try.f7 false true false false) := by
  refine returnsInHanded_of_change_sized (C := Try.checked) own started (by kernel_rfl) Try.func7
    (ChangeSpec.witness6 (enc := enc) (C := Try.checked) false ⟨#[], #[.agg #[.slice none 0 0], .slice none 0 0], []⟩ 8 (by kernel_rfl) (by kernel_rfl) (by kernel_rfl) (by kernel_rfl)) ?_
  intro W base args ds gs before hval hW _ hsz _
  exact contract H enc W base args ds gs before hval hW hsz
theorem said : Rows.RulesAgreedSaid :=
  OpenClaim.holds_of_wide 7 Try.f7 rfl rfl rfl rfl rfl rfl rfl ⟨rfl, rfl, rfl, rfl, rfl⟩ rfl rfl rfl rfl rfl (by kernel_rfl) Try.func7 (by kernel_rfl)
    (of_decide_eq_true (by kernel_rfl)) (by unfold Func.isWrapper; first | (rw [if_pos (by decide +kernel)]; kernel_rfl) | (rw [if_neg (by decide +kernel)]; exact ⟨rfl, rfl⟩))
    (fun os started H enc _ => lifted os started H enc)
end Go.Proofs.Ytmokfpjiibociaa.cRulesAgreed
