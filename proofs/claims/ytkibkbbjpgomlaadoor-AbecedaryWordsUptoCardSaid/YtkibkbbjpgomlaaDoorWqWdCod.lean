/-
  WdCod.
-/
import Derived.Test.YtkibkbbjpgomlaaDoorWqA
import Derived.Laws.BitsAllLaws
import Derived.Laws.Shifts
import Derived.Lib.Hide
namespace Go.Proofs.YtkibkbbjpgomlaaDoor.W
open Go.RowKit
open Aid
set_option linter.unusedSimpArgs false
set_option linter.unusedVariables false

/-- a number as it is written -/
def putU (n : Nat) : List Int := if h : 128 ≤ n then ((n % 128 + 128 : Nat) : Int) :: putU (n / 128) else [(n : Int)]
termination_by n
decreasing_by omega
theorem putU_big {n : Nat} (h : 128 ≤ n) : putU n = ((n % 128 + 128 : Nat) : Int) :: putU (n / 128) := by rw [putU]; rw [dif_pos h]
theorem putU_small {n : Nat} (h : n < 128) : putU n = [(n : Int)] := by rw [putU]; rw [dif_neg (by omega)]
theorem info_u8 : (Tryd.prog.info? 5).map (fun i => (i.zero, i.size, i.bytes)) = some (some (.int .u8 0), 1, 1) := by kernel_rfl
theorem parts_u8 : ∃ i, Tryd.prog.info? 5 = some i ∧ i.zero = some (.int .u8 0) ∧ i.size = 1 ∧ i.bytes = 1 := by
  have h := info_u8
  cases hq : Tryd.prog.info? 5 with
  | none => rw [hq] at h; simp at h
  | some i => rw [hq] at h; simp at h; exact ⟨i, rfl, h.1, h.2.1, h.2.2⟩
theorem or_fin : ∀ a : Fin 256, (a.1 ||| 128 : Nat) = a.1 % 128 + 128 := by decide +kernel
theorem or_128 (y : Int) (h0 : 0 ≤ y) (h1 : y < 256) : bits .or .u8 y 128 = ((y.toNat % 128 + 128 : Nat) : Int) := by
  rw [u8_or y 128 h0 h1 (by decide) (by decide)]
  have := or_fin ⟨y.toNat, by omega⟩
  exact congrArg Int.ofNat this
theorem putU_len (k : Nat) : ∀ {n : Nat}, n < 128 ^ (k + 1) → (putU n).length ≤ k + 1 := by
  induction k with
  | zero => intro n h; rw [putU_small (by omega)]; simp
  | succ k ih =>
    intro n h
    by_cases hb : 128 ≤ n
    · rw [putU_big hb, List.length_cons]
      have := ih (n := n / 128) (by rw [Nat.pow_succ] at h; omega)
      omega
    · rw [putU_small (by omega)]; simp
theorem putU_ten {n : Nat} (h : n < 18446744073709551616) : (putU n).length ≤ 10 := putU_len 9 (by omega)
abbrev Own (w : World) (base : Nat) (v : Value) (l : List Int) : Prop := w.ownsRow base 5 1 v l.length (l.map (.int .u8))

set_option maxRecDepth 100000 in
set_option maxHeartbeats 1000000 in
theorem putuint_any (base : Nat) (v : Value) (l : List Int) (n : Nat) (w : World) (h : Own w base v l) (hb : base ≤ w.heap.size) (hl : l.length ≤ 140737488355000) (hn : n < 18446744073709551616) :
    Calls Tryd.prog 37 #[v, .int .u64 n] w fun e w' => ∃ v', e = .returned v' ∧ Own w' base v' (l ++ putU n) ∧ Below base w w' := by
  go_enter Tryd.func37, Tryd.ntmps37
  go_wp2_with fail
  obtain ⟨iu, hi, hz0, hz1, hz2⟩ := parts_u8
  have hten := putU_ten hn
  go_loopw [0, 1] (fun x0 x1 wr => ∃ (l' : List Int) (m : Nat), x1 = .int .u64 m ∧ l' ++ putU m = l ++ putU n ∧ m ≤ n ∧ Own wr base x0 l' ∧ Below base w wr) (fun _ x1 _ => (intOf x1).toNat)
  case atStart => exact ⟨l, n, rfl, rfl, Nat.le_refl _, h, Below.refl _ _⟩
  case round =>
    obtain ⟨l', m, rfl, hlm, hmn, hO, hbr⟩ := hrel
    have hs := hbr.size
    have hlen := congrArg List.length hlm
    simp only [List.length_append] at hlen
    by_cases hlt : (128 : Int) ≤ (m : Int)
    · have e2 : bits .or .u8 ((m : Int) % 256) 128 = ((m % 128 + 128 : Nat) : Int) := by
        rw [or_128 _ (by omega) (by omega)]
        congr 1; omega
      rw [putU_big (by omega)] at hlm hlen
      simp only [List.length_cons] at hlen
      go_wp2_with (at_builtin; refine wpList_push _ (by rfl) _ _ 30 rfl base 5 iu (.int .u8 0) 1 Tryd.underlying30 hi hz0 hz1 hz2 rfl _ l'.length _ rfl (hO.alloc _) wr.heap.size (.int .u8 ((m : Int) % 128 + 128)) rfl (cell_new _ _ _ _ rfl) rfl (by unfold maxLen; omega) (by omega) (by simp; omega) ?_; intro v' w2 hown2 hb2)
      refine ⟨⟨l' ++ [((m % 128 + 128 : Nat) : Int)], m / 128, ?_, by rw [← hlm]; simp, by omega, ?_, hbr.trans (((Below.refl _ _).alloc (by omega) _).trans hb2)⟩, ?_⟩
      · go_num
      · show World.ownsRow _ _ _ _ _ _ _
        simpa using hown2
      · simp [intOf]; omega
    · rw [putU_small (by omega)] at hlm hlen
      go_wp2_with (at_builtin; refine wpList_push _ (by rfl) _ _ 30 rfl base 5 iu (.int .u8 0) 1 Tryd.underlying30 hi hz0 hz1 hz2 rfl _ l'.length _ rfl (hO.alloc _) wr.heap.size (.int .u8 (m : Int)) rfl (cell_new _ _ _ _ rfl) rfl (by unfold maxLen; omega) (by omega) (by simp; omega) ?_; intro v' w2 hown2 hb2)
      go_ret
      refine ⟨v', rfl, ?_, hbr.trans (((Below.refl _ _).alloc (by omega) _).trans hb2)⟩
      rw [← hlm]
      show World.ownsRow _ _ _ _ _ _ _
      simpa using hown2
/-- a number, as it is read: it, how long it is, the error -/
def numF : Nat → Nat → List Int → Nat × Nat × Int
  | _, _, [] => (0, 0, 20)
  | i, acc, c :: t =>
    if i = 9 ∧ 1 < c then (0, 0, 21) else
    if 128 ≤ c then numF (i + 1) (acc + (c.toNat % 128) * 2 ^ (7 * i)) t else
    if c = 0 ∧ 0 < i then (0, 0, 21) else (acc + (c.toNat % 128) * 2 ^ (7 * i), i + 1, 0)
theorem u8_and127 (y : Int) (h0 : 0 ≤ y) (h1 : y < 256) : bits .and .u8 y 127 = ((y.toNat % 128 : Nat) : Int) := by
  rw [u8_and y 127 h0 h1 (by decide) (by decide)]
  exact congrArg Int.ofNat (Nat.and_two_pow_sub_one_eq_mod y.toNat 7)
theorem shl_lt {k i : Nat} (hi : i ≤ 9) (h9 : i = 9 → k ≤ 1) : k % 128 * 2 ^ (7 * i) < 18446744073709551616 ∧ (2 : Nat) ^ (7 * i) ≤ 9223372036854775808 := by
  have : i = 0 ∨ i = 1 ∨ i = 2 ∨ i = 3 ∨ i = 4 ∨ i = 5 ∨ i = 6 ∨ i = 7 ∨ i = 8 ∨ i = 9 := by omega
  rcases this with rfl | rfl | rfl | rfl | rfl | rfl | rfl | rfl | rfl | rfl <;> (constructor <;> omega)
theorem or_shl {acc k i : Nat} (hi : i ≤ 9) (h9 : i = 9 → k ≤ 1) (hk : k < 256) (hacc : acc < 2 ^ (7 * i)) :
    bits .or .u64 (acc : Int) (IntKind.u64.wrap (IntKind.u64.wrap (bits .and .u8 (k : Int) 127) * 2 ^ (7 * i))) = ((acc + k % 128 * 2 ^ (7 * i) : Nat) : Int) := by
  obtain ⟨h1, h2⟩ := shl_lt hi h9
  rw [u8_and127 _ (by omega) (by omega)]
  have e0 : ((k : Int).toNat % 128 : Nat) = k % 128 := by omega
  rw [e0]
  have e1 : IntKind.u64.wrap ((k % 128 : Nat) : Int) = ((k % 128 : Nat) : Int) := by rw [IntKind.wrap_u64]; omega
  rw [e1]
  have e2 : ((k % 128 : Nat) : Int) * 2 ^ (7 * i) = ((k % 128 * 2 ^ (7 * i) : Nat) : Int) := by push_cast; rfl
  rw [e2]
  obtain ⟨m, hm⟩ : ∃ m, k % 128 * 2 ^ (7 * i) = m := ⟨_, rfl⟩
  have hd : (m : Int) % 2 ^ (7 * i) = 0 := by
    rw [← hm]; push_cast; exact Int.mul_emod_left _ _
  rw [hm] at h1 ⊢
  have e3 : IntKind.u64.wrap (m : Int) = (m : Int) := by rw [IntKind.wrap_u64]; omega
  rw [e3]
  have hc : bits .or .u64 (acc : Int) (m : Int) = bits .or .u64 (m : Int) (acc : Int) := by simp only [bits, BitVec.or_comm]
  rw [hc, bits_join .u64 64 (by decide) (fun n h0 hn => by rw [IntKind.wrap_u64]; omega) (7 * i) (m : Int) (acc : Int) (by omega) hd (by omega) (by omega) (by exact_mod_cast hacc) (by omega)]
  omega
set_option maxRecDepth 100000 in
set_option maxHeartbeats 1000000 in
theorem number_any (v : Value) (l : List Int) (w : World) (h : Ints w .u8 v l) (hB : ∀ x ∈ l, 0 ≤ x ∧ x ≤ 255) :
    Calls Tryd.prog 39 #[v] w fun e w' => e = .returned (.tuple #[.int .u64 (numF 0 0 l).1, .int .i64 (numF 0 0 l).2.1, .int .i64 (numF 0 0 l).2.2]) ∧ w' = w := by
  have hn := h.1
  obtain ⟨va, vc, rfl⟩ := h.form
  have H := Lib.hid h
  have HB := Lib.hid hB
  clear h hB
  obtain ⟨n, hln⟩ : ∃ n, l.length = n := ⟨_, rfl⟩
  have HLN := Lib.hid hln
  rw [hln] at hn ⊢
  clear hln
  go_enter Tryd.func39, Tryd.ntmps39
  go_wp2_with fail
  go_loopw [5, 10] (fun x5 x10 wr => ∃ (i acc : Nat), x5 = .int .u64 acc ∧ x10 = .int .i64 i ∧ i ≤ n ∧ i ≤ 9 ∧ acc < 2 ^ (7 * i) ∧ numF 0 0 l = numF i acc (l.drop i) ∧ wr = w) (fun _ x10 _ => (n - intOf x10).toNat)
  case atStart => exact ⟨0, 0, rfl, rfl, by omega, by omega, by decide, rfl, rfl⟩
  case round =>
    obtain ⟨i, acc, rfl, rfl, hin, hi9, hacc, heq, rfl⟩ := hrel
    by_cases hlt : (i : Int) < (n : Int)
    · have hiN : i < l.length := by rw [HLN.out]; omega
      obtain ⟨b, o, rfl, hb, hc⟩ := H.out.at_ hiN rfl
      obtain ⟨k, hk⟩ : ∃ k : Nat, l.getD i 0 = (k : Int) := ⟨(l.getD i 0).toNat, by
        have := HB.out (l.getD i 0) (by rw [List.getD_eq_getElem?_getD, List.getElem?_eq_getElem hiN]; exact List.getElem_mem hiN)
        omega⟩
      have hk8 : k < 256 := by
        have := HB.out (l.getD i 0) (by rw [List.getD_eq_getElem?_getD, List.getElem?_eq_getElem hiN]; exact List.getElem_mem hiN)
        omega
      rw [hk] at hc
      have hdr : l.drop i = (k : Int) :: l.drop (i + 1) := by
        rw [List.drop_eq_getElem_cons hiN]
        congr 1
        rw [List.getD_eq_getElem?_getD, List.getElem?_eq_getElem hiN] at hk
        exact hk
      rw [hdr] at heq
      have hand := u8_and127 (k : Int) (by omega) (by omega)
      have HAND := Lib.hid hand
      have HEQ := Lib.hid heq
      have HACC := Lib.hid hacc
      clear heq hacc hdr hk hand
      go_wp2_with fail
      case roundEnd =>
        have h128 : (128 : Int) ≤ (k : Int) := by assumption
        have h9 : ¬ ((i : Int) = 9) := by assumption
        rw [or_shl hi9 (fun e => absurd (by omega) h9) hk8 HACC.out]
        refine ⟨⟨i + 1, _, rfl, rfl, by omega, by omega, ?_, ?_, trivial⟩, by simp [intOf]; omega⟩
        · have h1 := HACC.out
          have h2 : k % 128 ≤ 127 := by omega
          have h3 := Nat.mul_le_mul_right (2 ^ (7 * i)) h2
          rw [show 7 * (i + 1) = 7 * i + 7 by omega, Nat.pow_add]
          omega
        · rw [HEQ.out, numF, if_neg (by omega), if_pos h128]
          rfl
      all_goals refine bodyPost_ret (results_tmp3 rfl _ _ _) rfl ?_
      all_goals refine ⟨?_, rfl⟩
      all_goals
        first
        | (have e : numF 0 0 l = (0, 0, 21) := by
             rw [HEQ.out, numF]
             first
             | rw [if_pos (by omega)]
             | (rw [if_neg (by omega), if_neg (by omega), if_pos (by omega)])
           rw [e]; rfl)
        | (have hi : i = 9 := by omega
           subst hi
           have e : numF 0 0 l = (acc + k % 128 * 2 ^ (7 * 9), 10, 0) := by
             rw [HEQ.out, numF, if_neg (by omega), if_neg (by omega), if_neg (by omega)]
             rfl
           have e2 := or_shl (i := 9) (by omega) (fun _ => by omega) hk8 HACC.out
           rw [show (2 : Int) ^ (7 * 9) = 9223372036854775808 by decide] at e2
           rw [e2, e]; rfl)
        | (have e : numF 0 0 l = (acc + k % 128 * 2 ^ (7 * i), i + 1, 0) := by
             rw [HEQ.out, numF, if_neg (by omega), if_neg (by omega), if_neg (by omega)]
             rfl
           have e2 := or_shl (i := i) (by omega) (fun _ => by omega) hk8 HACC.out
           rw [e]
           try simp only [e2]
           rfl)
        | (have hk0 : k = 0 := by omega
           have hi0 : i = 0 := by omega
           subst hk0
           have e : numF 0 0 l = (acc + 0 % 128 * 2 ^ (7 * i), i + 1, 0) := by
             rw [HEQ.out, numF, if_neg (by omega), if_neg (by omega), if_neg (by omega)]
             rfl
           have e2 := or_shl (i := i) (by omega) (fun _ => by omega) hk8 HACC.out
           rw [show ((0 : Nat) : Int) = 0 from rfl] at e2
           rw [e]
           try simp only [e2]
           rfl)
    · have hin2 : i = n := by omega
      subst hin2
      have HEQ := Lib.hid heq
      clear heq
      go_wp2_with fail
      refine bodyPost_ret (results_tmp3 rfl _ _ _) rfl ?_
      refine ⟨?_, rfl⟩
      have e : numF 0 0 l = (0, 0, 20) := by
        rw [HEQ.out, List.drop_eq_nil_of_le (by rw [HLN.out]; omega)]
        rfl
      rw [e]
      rfl
theorem numF_k : ∀ (l : List Int) (i acc : Nat), (numF i acc l).2.1 ≤ i + l.length := by
  intro l
  induction l with
  | nil => intro i acc; simp [numF]
  | cons c t ih =>
    intro i acc
    rw [numF]
    split
    · simp
    · split
      · have := ih (i + 1) (acc + (c.toNat % 128) * 2 ^ (7 * i))
        simp only [List.length_cons]; omega
      · split
        · simp
        · simp only [List.length_cons]; omega
theorem numF_nil {l : List Int} (h : (numF 0 0 l).2.2 = 0) : l ≠ [] := by
  rintro rfl
  simp [numF] at h
end Go.Proofs.YtkibkbbjpgomlaaDoor.W
