/-
  WalCod + WalRd + WalBy + DskMiss + WalTxt + WalSt + WalRow + WalGet + WalSyn + WalFrd + WalLog + WalApp + WalWr + WalWrt.
-/
import Derived.Test.YtcpkpljeimbdiaaGreatAidC
import Derived.Laws.BitsAllLaws
import Derived.Laws.Shifts
import Derived.Lib.Hide
import Derived.Test.YtcpkpljeimbdiaaGreatDskGood
import Derived.Lib.SliceRun
import Derived.Test.YtcpkpljeimbdiaaGreatDskRead
import Derived.Deep.QuietTactic
import Derived.BigQuiet
import Derived.ArgAppend
import Derived.Laws.IdiomCopy
import Derived.Deep.RegionHeld3
import Derived.Test.YtcpkpljeimbdiaaGreatDskFit
import Derived.Deep.RegionLaw
namespace Go.Proofs.YtcpkpljeimbdiaaGreat.W
open Go.RowKit
open Aid
set_option linter.unusedSimpArgs false
set_option linter.unusedVariables false
def putU (n : Nat) : List Int := if h : 128 ≤ n then ((n % 128 + 128 : Nat) : Int) :: putU (n / 128) else [(n : Int)]
termination_by n
decreasing_by omega
theorem putU_big {n : Nat} (h : 128 ≤ n) : putU n = ((n % 128 + 128 : Nat) : Int) :: putU (n / 128) := by rw [putU]; rw [dif_pos h]
theorem putU_small {n : Nat} (h : n < 128) : putU n = [(n : Int)] := by rw [putU]; rw [dif_neg (by omega)]
theorem info_u8 : (Tryz.prog.info? 5).map (fun i => (i.zero, i.size, i.bytes)) = some (some (.int .u8 0), 1, 1) := by kernel_rfl
theorem parts_u8 : ∃ i, Tryz.prog.info? 5 = some i ∧ i.zero = some (.int .u8 0) ∧ i.size = 1 ∧ i.bytes = 1 := by
  have h := info_u8
  cases hq : Tryz.prog.info? 5 with
  | none => rw [hq] at h; simp at h
  | some i => rw [hq] at h; simp at h; exact ⟨i, rfl, h.1, h.2.1, h.2.2⟩
theorem or_fin : ∀ a : Fin 256, (a.1 ||| 128 : Nat) = a.1 % 128 + 128 := by decide +kernel
theorem or_128 (y : Int) (h0 : 0 ≤ y) (h1 : y < 256) : bits .or .u8 y 128 = ((y.toNat % 128 + 128 : Nat) : Int) := by
  rw [u8_or y 128 h0 h1 (by decide) (by decide)]
  have := or_fin ⟨y.toNat, by omega⟩
  exact congrArg Int.ofNat this
theorem putU_len (k : Nat) : ∀ {n : Nat}, n < 128 ^ (k + 1) → (putU n).length ≤ k + 1 := by
  induction k with
  | zero => intro n h; rw [putU_small (by omega)]; simp
  | succ k ih =>
    intro n h
    by_cases hb : 128 ≤ n
    · rw [putU_big hb, List.length_cons]
      have := ih (n := n / 128) (by rw [Nat.pow_succ] at h; omega)
      omega
    · rw [putU_small (by omega)]; simp
theorem putU_ten {n : Nat} (h : n < 18446744073709551616) : (putU n).length ≤ 10 := putU_len 9 (by omega)
abbrev Own (w : World) (base : Nat) (v : Value) (l : List Int) : Prop := w.ownsRow base 5 1 v l.length (l.map (.int .u8))
set_option maxRecDepth 100000 in
set_option maxHeartbeats 1000000 in
theorem putuint_any (base : Nat) (v : Value) (l : List Int) (n : Nat) (w : World) (h : Own w base v l) (hb : base ≤ w.heap.size) (hl : l.length ≤ 140737488355000) (hn : n < 18446744073709551616) :
    Calls Tryz.prog 56 #[v, .int .u64 n] w fun e w' => ∃ v', e = .returned v' ∧ Own w' base v' (l ++ putU n) ∧ Below base w w' := by
  go_enter Tryz.func56, Tryz.ntmps56
  go_wp2_with fail
  obtain ⟨iu, hi, hz0, hz1, hz2⟩ := parts_u8
  have hten := putU_ten hn
  go_loopw [0, 1] (fun x0 x1 wr => ∃ (l' : List Int) (m : Nat), x1 = .int .u64 m ∧ l' ++ putU m = l ++ putU n ∧ m ≤ n ∧ Own wr base x0 l' ∧ Below base w wr) (fun _ x1 _ => (intOf x1).toNat)
  case atStart => exact ⟨l, n, rfl, rfl, Nat.le_refl _, h, Below.refl _ _⟩
  case round =>
    obtain ⟨l', m, rfl, hlm, hmn, hO, hbr⟩ := hrel
    have hs := hbr.size
    have hlen := congrArg List.length hlm
    simp only [List.length_append] at hlen
    by_cases hlt : (128 : Int) ≤ (m : Int)
    · have e2 : bits .or .u8 ((m : Int) % 256) 128 = ((m % 128 + 128 : Nat) : Int) := by
        rw [or_128 _ (by omega) (by omega)]
        congr 1; omega
      rw [putU_big (by omega)] at hlm hlen
      simp only [List.length_cons] at hlen
      go_wp2_with (at_builtin; refine wpList_push _ (by rfl) _ _ 49 rfl base 5 iu (.int .u8 0) 1 Tryz.underlying49 hi hz0 hz1 hz2 rfl _ l'.length _ rfl (hO.alloc _) wr.heap.size (.int .u8 ((m : Int) % 128 + 128)) rfl (cell_new _ _ _ _ rfl) rfl (by unfold maxLen; omega) (by omega) (by simp; omega) ?_; intro v' w2 hown2 hb2)
      refine ⟨⟨l' ++ [((m % 128 + 128 : Nat) : Int)], m / 128, ?_, by rw [← hlm]; simp, by omega, ?_, hbr.trans (((Below.refl _ _).alloc (by omega) _).trans hb2)⟩, ?_⟩
      · go_num
      · show World.ownsRow _ _ _ _ _ _ _
        simpa using hown2
      · simp [intOf]; omega
    · rw [putU_small (by omega)] at hlm hlen
      go_wp2_with (at_builtin; refine wpList_push _ (by rfl) _ _ 49 rfl base 5 iu (.int .u8 0) 1 Tryz.underlying49 hi hz0 hz1 hz2 rfl _ l'.length _ rfl (hO.alloc _) wr.heap.size (.int .u8 (m : Int)) rfl (cell_new _ _ _ _ rfl) rfl (by unfold maxLen; omega) (by omega) (by simp; omega) ?_; intro v' w2 hown2 hb2)
      go_ret
      refine ⟨v', rfl, ?_, hbr.trans (((Below.refl _ _).alloc (by omega) _).trans hb2)⟩
      rw [← hlm]
      show World.ownsRow _ _ _ _ _ _ _
      simpa using hown2
set_option maxRecDepth 100000 in
set_option maxHeartbeats 1000000 in
theorem putbytes_nil (u : Value) (x : List Int) (w : World) (hx : Ints w .u8 u x) (hl : x.length ≤ 140737488354000) :
    Calls Tryz.prog 35 #[.slice none 0 0, u] w fun e w' => ∃ v', e = .returned v' ∧ Own w' w.heap.size v' (putU x.length ++ x) ∧ Below w.heap.size w w' := by
  obtain ⟨iu, hi, hz0, hz1, hz2⟩ := parts_u8
  obtain ⟨ua, uc, hu⟩ := hx.form
  have hten := putU_ten (n := x.length) (by omega)
  have HX := Lib.hid hx
  clear hx
  subst hu
  go_enter Tryz.func35, Tryz.ntmps35
  go_wp2_with fail
  refine (putuint_any w.heap.size (.slice none 0 0) [] x.length w (World.ownsRow_nil _ _ _ _) (Nat.le_refl _) (by simp) (by omega)).mono ?_
  rintro e w1 ⟨v1, rfl, hO1, hb1⟩
  rw [List.nil_append] at hO1
  go_wp2_with (at_builtin; refine wpList_append_ints _ (by rfl) _ _ 49 rfl w.heap.size 5 iu (.int .u8 0) 1 Tryz.underlying49 hi hz0 hz1 hz2 rfl .u8 _ _ _ rfl hO1 _ x rfl (HX.out.below hb1) (by unfold maxLen; omega) (by omega) hb1.size ?_; intro v' w2 hown2 hb2)
  go_ret
  refine ⟨v', rfl, ?_, hb1.trans hb2⟩
  show World.ownsRow _ _ _ _ _ _ _
  simpa using hown2
def numF : Nat → Nat → List Int → Nat × Nat × Int
  | _, _, [] => (0, 0, 20)
  | i, acc, c :: t =>
    if i = 9 ∧ 1 < c then (0, 0, 21) else
    if 128 ≤ c then numF (i + 1) (acc + (c.toNat % 128) * 2 ^ (7 * i)) t else
    if c = 0 ∧ 0 < i then (0, 0, 21) else (acc + (c.toNat % 128) * 2 ^ (7 * i), i + 1, 0)
theorem u8_and127 (y : Int) (h0 : 0 ≤ y) (h1 : y < 256) : bits .and .u8 y 127 = ((y.toNat % 128 : Nat) : Int) := by
  rw [u8_and y 127 h0 h1 (by decide) (by decide)]
  exact congrArg Int.ofNat (Nat.and_two_pow_sub_one_eq_mod y.toNat 7)
theorem shl_lt {k i : Nat} (hi : i ≤ 9) (h9 : i = 9 → k ≤ 1) : k % 128 * 2 ^ (7 * i) < 18446744073709551616 ∧ (2 : Nat) ^ (7 * i) ≤ 9223372036854775808 := by
  have : i = 0 ∨ i = 1 ∨ i = 2 ∨ i = 3 ∨ i = 4 ∨ i = 5 ∨ i = 6 ∨ i = 7 ∨ i = 8 ∨ i = 9 := by omega
  rcases this with rfl | rfl | rfl | rfl | rfl | rfl | rfl | rfl | rfl | rfl <;> (constructor <;> omega)
theorem or_shl {acc k i : Nat} (hi : i ≤ 9) (h9 : i = 9 → k ≤ 1) (hk : k < 256) (hacc : acc < 2 ^ (7 * i)) :
    bits .or .u64 (acc : Int) (IntKind.u64.wrap (IntKind.u64.wrap (bits .and .u8 (k : Int) 127) * 2 ^ (7 * i))) = ((acc + k % 128 * 2 ^ (7 * i) : Nat) : Int) := by
  obtain ⟨h1, h2⟩ := shl_lt hi h9
  rw [u8_and127 _ (by omega) (by omega)]
  have e0 : ((k : Int).toNat % 128 : Nat) = k % 128 := by omega
  rw [e0]
  have e1 : IntKind.u64.wrap ((k % 128 : Nat) : Int) = ((k % 128 : Nat) : Int) := by rw [IntKind.wrap_u64]; omega
  rw [e1]
  have e2 : ((k % 128 : Nat) : Int) * 2 ^ (7 * i) = ((k % 128 * 2 ^ (7 * i) : Nat) : Int) := by push_cast; rfl
  rw [e2]
  obtain ⟨m, hm⟩ : ∃ m, k % 128 * 2 ^ (7 * i) = m := ⟨_, rfl⟩
  have hd : (m : Int) % 2 ^ (7 * i) = 0 := by
    rw [← hm]; push_cast; exact Int.mul_emod_left _ _
  rw [hm] at h1 ⊢
  have e3 : IntKind.u64.wrap (m : Int) = (m : Int) := by rw [IntKind.wrap_u64]; omega
  rw [e3]
  have hc : bits .or .u64 (acc : Int) (m : Int) = bits .or .u64 (m : Int) (acc : Int) := by simp only [bits, BitVec.or_comm]
  rw [hc, bits_join .u64 64 (by decide) (fun n h0 hn => by rw [IntKind.wrap_u64]; omega) (7 * i) (m : Int) (acc : Int) (by omega) hd (by omega) (by omega) (by exact_mod_cast hacc) (by omega)]
  omega
set_option maxRecDepth 100000 in
set_option maxHeartbeats 1000000 in
theorem number_any (v : Value) (l : List Int) (w : World) (h : Ints w .u8 v l) (hB : ∀ x ∈ l, 0 ≤ x ∧ x ≤ 255) :
    Calls Tryz.prog 67 #[v] w fun e w' => e = .returned (.tuple #[.int .u64 (numF 0 0 l).1, .int .i64 (numF 0 0 l).2.1, .int .i64 (numF 0 0 l).2.2]) ∧ w' = w := by
  have hn := h.1
  obtain ⟨va, vc, rfl⟩ := h.form
  have H := Lib.hid h
  have HB := Lib.hid hB
  clear h hB
  obtain ⟨n, hln⟩ : ∃ n, l.length = n := ⟨_, rfl⟩
  have HLN := Lib.hid hln
  rw [hln] at hn ⊢
  clear hln
  go_enter Tryz.func67, Tryz.ntmps67
  go_wp2_with fail
  go_loopw [5, 10] (fun x5 x10 wr => ∃ (i acc : Nat), x5 = .int .u64 acc ∧ x10 = .int .i64 i ∧ i ≤ n ∧ i ≤ 9 ∧ acc < 2 ^ (7 * i) ∧ numF 0 0 l = numF i acc (l.drop i) ∧ wr = w) (fun _ x10 _ => (n - intOf x10).toNat)
  case atStart => exact ⟨0, 0, rfl, rfl, by omega, by omega, by decide, rfl, rfl⟩
  case round =>
    obtain ⟨i, acc, rfl, rfl, hin, hi9, hacc, heq, rfl⟩ := hrel
    by_cases hlt : (i : Int) < (n : Int)
    · have hiN : i < l.length := by rw [HLN.out]; omega
      obtain ⟨b, o, rfl, hb, hc⟩ := H.out.at_ hiN rfl
      obtain ⟨k, hk⟩ : ∃ k : Nat, l.getD i 0 = (k : Int) := ⟨(l.getD i 0).toNat, by
        have := HB.out (l.getD i 0) (by rw [List.getD_eq_getElem?_getD, List.getElem?_eq_getElem hiN]; exact List.getElem_mem hiN)
        omega⟩
      have hk8 : k < 256 := by
        have := HB.out (l.getD i 0) (by rw [List.getD_eq_getElem?_getD, List.getElem?_eq_getElem hiN]; exact List.getElem_mem hiN)
        omega
      rw [hk] at hc
      have hdr : l.drop i = (k : Int) :: l.drop (i + 1) := by
        rw [List.drop_eq_getElem_cons hiN]
        congr 1
        rw [List.getD_eq_getElem?_getD, List.getElem?_eq_getElem hiN] at hk
        exact hk
      rw [hdr] at heq
      have hand := u8_and127 (k : Int) (by omega) (by omega)
      have HAND := Lib.hid hand
      have HEQ := Lib.hid heq
      have HACC := Lib.hid hacc
      clear heq hacc hdr hk hand
      go_wp2_with fail
      case roundEnd =>
        have h128 : (128 : Int) ≤ (k : Int) := by assumption
        have h9 : ¬ ((i : Int) = 9) := by assumption
        rw [or_shl hi9 (fun e => absurd (by omega) h9) hk8 HACC.out]
        refine ⟨⟨i + 1, _, rfl, rfl, by omega, by omega, ?_, ?_, trivial⟩, by simp [intOf]; omega⟩
        · have h1 := HACC.out
          have h2 : k % 128 ≤ 127 := by omega
          have h3 := Nat.mul_le_mul_right (2 ^ (7 * i)) h2
          rw [show 7 * (i + 1) = 7 * i + 7 by omega, Nat.pow_add]
          omega
        · rw [HEQ.out, numF, if_neg (by omega), if_pos h128]
          rfl
      all_goals refine bodyPost_ret (results_tmp3 rfl _ _ _) rfl ?_
      all_goals refine ⟨?_, rfl⟩
      all_goals
        first
        | (have e : numF 0 0 l = (0, 0, 21) := by
             rw [HEQ.out, numF]
             first
             | rw [if_pos (by omega)]
             | (rw [if_neg (by omega), if_neg (by omega), if_pos (by omega)])
           rw [e]; rfl)
        | (have hi : i = 9 := by omega
           subst hi
           have e : numF 0 0 l = (acc + k % 128 * 2 ^ (7 * 9), 10, 0) := by
             rw [HEQ.out, numF, if_neg (by omega), if_neg (by omega), if_neg (by omega)]
             rfl
           have e2 := or_shl (i := 9) (by omega) (fun _ => by omega) hk8 HACC.out
           rw [show (2 : Int) ^ (7 * 9) = 9223372036854775808 by decide] at e2
           rw [e2, e]; rfl)
        | (have e : numF 0 0 l = (acc + k % 128 * 2 ^ (7 * i), i + 1, 0) := by
             rw [HEQ.out, numF, if_neg (by omega), if_neg (by omega), if_neg (by omega)]
             rfl
           have e2 := or_shl (i := i) (by omega) (fun _ => by omega) hk8 HACC.out
           rw [e]
           try simp only [e2]
           rfl)
        | (have hk0 : k = 0 := by omega
           have hi0 : i = 0 := by omega
           subst hk0
           have e : numF 0 0 l = (acc + 0 % 128 * 2 ^ (7 * i), i + 1, 0) := by
             rw [HEQ.out, numF, if_neg (by omega), if_neg (by omega), if_neg (by omega)]
             rfl
           have e2 := or_shl (i := i) (by omega) (fun _ => by omega) hk8 HACC.out
           rw [show ((0 : Nat) : Int) = 0 from rfl] at e2
           rw [e]
           try simp only [e2]
           rfl)
    · have hin2 : i = n := by omega
      subst hin2
      have HEQ := Lib.hid heq
      clear heq
      go_wp2_with fail
      refine bodyPost_ret (results_tmp3 rfl _ _ _) rfl ?_
      refine ⟨?_, rfl⟩
      have e : numF 0 0 l = (0, 0, 20) := by
        rw [HEQ.out, List.drop_eq_nil_of_le (by rw [HLN.out]; omega)]
        rfl
      rw [e]
      rfl
theorem numF_k : ∀ (l : List Int) (i acc : Nat), (numF i acc l).2.1 ≤ i + l.length := by
  intro l
  induction l with
  | nil => intro i acc; simp [numF]
  | cons c t ih =>
    intro i acc
    rw [numF]
    split
    · simp
    · split
      · have := ih (i + 1) (acc + (c.toNat % 128) * 2 ^ (7 * i))
        simp only [List.length_cons]; omega
      · split
        · simp
        · simp only [List.length_cons]; omega
theorem numF_nil {l : List Int} (h : (numF 0 0 l).2.2 = 0) : l ≠ [] := by
  rintro rfl
  simp [numF] at h
end Go.Proofs.YtcpkpljeimbdiaaGreat.W
namespace Go.Proofs.YtcpkpljeimbdiaaGreat.W
open Go.RowKit
open Aid K
set_option linter.unusedSimpArgs false
set_option linter.unusedVariables false
theorem ints_ends {w : World} {v : Value} {l : List Int} (h : Ints w .u8 v l) : ∃ a c, v = .slice a l.length c ∧ (a = none → l = [] ∧ c = 0) := by
  obtain ⟨_, ⟨rfl, rfl | ⟨ad, cap, rfl⟩⟩ | ⟨b, off, cap, rfl, _⟩⟩ := h
  · exact ⟨none, 0, rfl, fun _ => ⟨rfl, rfl⟩⟩
  · exact ⟨some ad, cap, rfl, fun e => (nomatch e)⟩
  · exact ⟨some _, cap, rfl, fun e => (nomatch e)⟩
theorem add_any (b o k : Nat) : (⟨b, o, none⟩ : Addr).add k = ⟨b, o + k, none⟩ := by unfold Addr.add; split <;> simp_all
def CapOk (v : Value) : Prop := ∀ a n c, v = .slice a n c → n ≤ c
theorem own_capOk {w : World} {base : Nat} {e : TypeId} {size n : Nat} {v : Value} {xs : List Value} (h : w.ownsRow base e size v n xs) : CapOk v := by
  rintro a m c rfl
  rcases h.2 with ⟨e, h0⟩ | ⟨g, cap, cur, hv, _, _, h1, _⟩
  · simp at e; omega
  · simp at hv; omega
theorem ints_drop {w : World} {a : Option Addr} {n c k : Nat} {l : List Int} (h : Ints w .u8 (.slice a n c) l) (hk : k ≤ n) : Ints w .u8 (.slice (a.map fun x => x.add k) (n - k) (c - k)) (l.drop k) := by
  obtain ⟨h0, ⟨rfl, h1 | ⟨ad, cap, h1⟩⟩ | ⟨b, o, cap, hv, hlt, hc⟩⟩ := h
  · simp at h1
    obtain ⟨rfl, rfl, rfl⟩ := h1
    exact ⟨by simp, .inl ⟨by simp, .inl (by simp)⟩⟩
  · simp at h1
    obtain ⟨rfl, rfl, rfl⟩ := h1
    exact ⟨by simp, .inl ⟨by simp, .inr ⟨_, _, by simp; exact ⟨rfl, rfl⟩⟩⟩⟩
  · simp only [Value.slice.injEq] at hv
    obtain ⟨rfl, rfl, rfl⟩ := hv
    refine ⟨by rw [List.length_drop]; omega, .inr ⟨b, o + k, c - k, by rw [List.length_drop]; simp [add_any], hlt, fun j hj => ?_⟩⟩
    rw [List.length_drop] at hj
    have := hc (k + j) (by omega)
    rw [show o + k + j = o + (k + j) by omega, this]
    congr 2
    rw [List.getD_eq_getElem?_getD, List.getD_eq_getElem?_getD, List.getElem?_drop]
theorem ints_take {w : World} {a : Option Addr} {n c k : Nat} {l : List Int} (h : Ints w .u8 (.slice a n c) l) (hk : k ≤ n) : Ints w .u8 (.slice a k c) (l.take k) := by
  obtain ⟨h0, ⟨rfl, h1 | ⟨ad, cap, h1⟩⟩ | ⟨b, o, cap, hv, hlt, hc⟩⟩ := h
  · simp at h1
    obtain ⟨rfl, rfl, rfl⟩ := h1
    obtain rfl : k = 0 := by omega
    exact ⟨by simp, .inl ⟨by simp, .inl rfl⟩⟩
  · simp at h1
    obtain ⟨rfl, rfl, rfl⟩ := h1
    obtain rfl : k = 0 := by omega
    exact ⟨by simp, .inl ⟨by simp, .inr ⟨_, _, rfl⟩⟩⟩
  · simp only [Value.slice.injEq] at hv
    obtain ⟨rfl, rfl, rfl⟩ := hv
    have hl : (l.take k).length = k := by rw [List.length_take]; omega
    refine ⟨by omega, .inr ⟨b, o, c, by rw [hl], hlt, fun j hj => ?_⟩⟩
    rw [hl] at hj
    rw [hc j (by omega), List.getD_eq_getElem?_getD, List.getD_eq_getElem?_getD, List.getElem?_take_of_lt hj]
theorem ints_no {w : World} {a : Option Addr} {c : Nat} (ha : a = none → c = 0) : Ints w .u8 (.slice a 0 c) [] := by
  cases a with
  | none => rw [ha rfl]; exact Ints.nil _ _
  | some a => exact ⟨by simp, .inl ⟨rfl, .inr ⟨a, c, rfl⟩⟩⟩
theorem drop_ne {w : World} {l : List Int} {a : Option Addr} {n c k p : Nat} (hI : Ints w .u8 (.slice a n c) l) (hn : ∀ b o n' c', Value.slice a n c = .slice (some ⟨b, o, none⟩) n' c' → n' ≠ 0 → b = p) : ∀ b o n' c', Value.slice (a.map fun x => x.add k) (n - k) (c - k) = .slice (some ⟨b, o, none⟩) n' c' → n' ≠ 0 → b = p := by
  intro b o n' c' e h0
  simp only [Value.slice.injEq] at e
  obtain ⟨e1, e2, e3⟩ := e
  obtain ⟨_, ⟨rfl, h1 | ⟨ad, cap, h1⟩⟩ | ⟨b', o', cap, hv, hlt, hc⟩⟩ := hI
  · simp at h1; omega
  · simp at h1; omega
  · simp only [Value.slice.injEq] at hv
    obtain ⟨rfl, rfl, rfl⟩ := hv
    have e4 : b' = b := by
      simp only [Option.map_some, Option.some.injEq, add_any] at e1
      cases e1; rfl
    rw [← e4]
    exact hn b' o' _ _ rfl (by omega)
set_option maxRecDepth 100000 in
set_option maxHeartbeats 2000000 in
theorem clone_any (v : Value) (l : List Int) (w : World) (hl : Ints w .u8 v l) : Calls Tryz.prog 36 #[v] w fun e w' => ∃ v', e = .returned v' ∧ Own w' w.heap.size v' l ∧ Below w.heap.size w w' := by
  obtain ⟨a, c, rfl, h0⟩ := ints_ends hl
  have h63 := hl.1
  obtain ⟨iu, hiu, hzu, hsu, hbu⟩ := parts_u8
  cases a with
  | none =>
    obtain ⟨rfl, rfl⟩ := h0 rfl
    have hq : ∀ w : World, (binOp .eql 49 (.slice none 0 0) (.slice none 0 0)).run Tryz.prog w = .ok (.bool true) w := fun w => Lib.run_eql_slice_nil w _ _ none 0 0 0 0 Tryz.underlying49
    go_enter Tryz.func36, Tryz.ntmps36
    go_wp2_with fail
    go_ret
    exact ⟨_, rfl, World.ownsRow_nil _ _ _ _, Below.refl _ _⟩
  | some ad =>
    have hown : (w.alloc (.cells #[] 5)).ownsRow w.heap.size 5 1 (.slice (some ⟨w.heap.size, 0, none⟩) 0 0) 0 [] := World.ownsRow_made w #[] 0 (Nat.le_refl _) (by unfold maxLen; omega) (by simp)
    have hbX : Below w.heap.size w (w.alloc (.cells #[] 5)) := (Below.refl _ _).alloc (Nat.le_refl _) _
    have hIX := hl.below hbX
    have hq : ∀ w : World, (binOp .eql 49 (.slice (some ad) l.length c) (.slice none 0 0)).run Tryz.prog w = .ok (.bool false) w := fun w => Lib.run_eql_slice_nil w _ _ (some ad) _ _ 0 0 Tryz.underlying49
    go_enter Tryz.func36, Tryz.ntmps36
    go_wp2_with (first | (at_builtin; refine wpList_append_ints _ (by rfl) _ _ 49 rfl w.heap.size 5 iu (.int .u8 0) 1 Tryz.underlying49 hiu hzu hsu hbu rfl .u8 _ 0 [] rfl hown _ l rfl hIX (by unfold maxLen; omega) (by omega) (by simp) ?_; intro v' w2 hown2 hb2))
    go_ret
    rw [Nat.zero_add, List.nil_append] at hown2
    exact ⟨v', rfl, hown2, hbX.trans hb2⟩
def RdIs (b0 : Nat) (w : World) (p : Nat) (l : List Int) (e : Int) : Prop := b0 ≠ p ∧ ∃ v, Blk w p 113 #[v, .int .i64 e] ∧ Ints w .u8 v l ∧ CapOk v ∧ ∀ b o n c, v = .slice (some ⟨b, o, none⟩) n c → n ≠ 0 → b = b0
theorem rd_cells {w : World} {p : Nat} {v : Value} {e : Int} (h : Blk w p 113 #[v, .int .i64 e]) : w.cell? ⟨p, 0, none⟩ = some v ∧ w.cell? ⟨p, 1, none⟩ = some (.int .i64 e) ∧ w.frozen? ⟨p, 0, none⟩ = false ∧ w.frozen? ⟨p, 1, none⟩ = false :=
  ⟨h.cell 0, h.cell 1, h.free 0, h.free 1⟩
theorem rd_no {w : World} {p : Nat} {v : Value} {e : Int} (h : Blk w p 113 #[v, .int .i64 e]) : ¬ StrRow w p := StrRow.no_blk h (by decide)
theorem rd_set0 {w : World} {p b0 : Nat} (h0 : b0 ≠ p) {v v' : Value} {e : Int} {l : List Int} (h : Blk w p 113 #[v, .int .i64 e]) (hI : Ints w .u8 v' l) (hC : CapOk v') (hn : ∀ b o n c, v' = .slice (some ⟨b, o, none⟩) n c → n ≠ 0 → b = b0) :
    RdIs b0 (w.setCell ⟨p, 0, none⟩ v') p l e ∧ Keeps (fun k => k = p) w (w.setCell ⟨p, 0, none⟩ v') := by
  have hK : Keeps (fun k => k = p) w (w.setCell ⟨p, 0, none⟩ v') := set_keeps (Keeps.refl _ _) rfl (rd_no h)
  exact ⟨⟨h0, v', h.set 0 v', ints_kept hI hK (fun b o n c e h1 => by rw [hn b o n c e h1]; exact h0), hC, hn⟩, hK⟩
theorem rd_set1 {w : World} {p b0 : Nat} (h0 : b0 ≠ p) {v : Value} {e e' : Int} {l : List Int} (h : Blk w p 113 #[v, .int .i64 e]) (hI : Ints w .u8 v l) (hC : CapOk v) (hn : ∀ b o n c, v = .slice (some ⟨b, o, none⟩) n c → n ≠ 0 → b = b0) :
    RdIs b0 (w.setCell ⟨p, 1, none⟩ (.int .i64 e')) p l e' ∧ Keeps (fun k => k = p) w (w.setCell ⟨p, 1, none⟩ (.int .i64 e')) := by
  have hK : Keeps (fun k => k = p) w (w.setCell ⟨p, 1, none⟩ (.int .i64 e')) := set_keeps (Keeps.refl _ _) rfl (rd_no h)
  exact ⟨⟨h0, v, h.set 1 _, ints_kept hI hK (fun b o n c e h1 => by rw [hn b o n c e h1]; exact h0), hC, hn⟩, hK⟩
set_option maxRecDepth 100000 in
set_option maxHeartbeats 2000000 in
theorem read_any (v : Value) (l : List Int) (w : World) (hl : Ints w .u8 v l) : Calls Tryz.prog 48 #[v] w fun e w' => ∃ p b0, e = .returned (.pointer (some ⟨p, 0, none⟩)) ∧ w.heap.size ≤ p ∧ p < w'.heap.size ∧ RdIs b0 w' p l 0 ∧ (l ≠ [] → w.heap.size ≤ b0 ∧ b0 < w'.heap.size) ∧ Below w.heap.size w w' := by
  obtain ⟨a, c, rfl, h0⟩ := ints_ends hl
  have HL := Lib.hid hl
  clear hl h0
  go_enter Tryz.func48, Tryz.ntmps48
  go_wp2_with fail
  refine (clone_any _ l w HL.out).mono ?_
  rintro e w1 ⟨v1, rfl, hO, hb1⟩
  have hI := Ints.own hO HL.out.1
  obtain ⟨a1, c1, rfl⟩ := hI.form
  have hs := hb1.size
  go_wp2_with fail
  go_ret
  have hb2 : Below w1.heap.size w1 (w1.alloc (.cells #[.slice a1 l.length c1, .int .i64 0] 113)) := (Below.refl _ _).alloc (Nat.le_refl _) _
  have hblk : ∃ b0, b0 ≠ w1.heap.size ∧ (l ≠ [] → w.heap.size ≤ b0 ∧ b0 < w1.heap.size) ∧ ∀ b o n c, Value.slice a1 l.length c1 = .slice (some ⟨b, o, none⟩) n c → n ≠ 0 → b = b0 := by
    rcases hO.2 with ⟨e, h0⟩ | ⟨g, cap, cur, e, h1, h2, _⟩
    · refine ⟨w1.heap.size + 1, by omega, fun hne => absurd (List.eq_nil_of_length_eq_zero h0) hne, fun b o n c e2 hn => ?_⟩
      simp at e2
      omega
    · have hgl := Blk.lt h2
      refine ⟨g, by omega, fun _ => ⟨h1, hgl⟩, fun b o n c e2 hn => ?_⟩
      rw [e] at e2
      simp only [Value.slice.injEq, Option.some.injEq, Addr.mk.injEq] at e2
      exact e2.1.1.symm
  obtain ⟨b0, g1, g2, g3⟩ := hblk
  refine ⟨w1.heap.size, b0, rfl, hs, by simp, ⟨g1, _, Blk.alloc_new _ _ _, hI.below hb2, own_capOk hO, g3⟩, fun hne => ⟨(g2 hne).1, by have := (g2 hne).2; simp; omega⟩, hb1.trans (hb2.mono hs)⟩
set_option maxRecDepth 100000 in
set_option maxHeartbeats 2000000 in
theorem err_any (b0 p : Nat) (l : List Int) (x : Int) (w : World) (h : RdIs b0 w p l x) : Calls Tryz.prog 51 #[.pointer (some ⟨p, 0, none⟩)] w fun e w' => e = .returned (.int .i64 x) ∧ w' = w := by
  obtain ⟨hb0, v, hB, hI, hC, hn⟩ := h
  obtain ⟨c0, c1, c2, c3⟩ := rd_cells hB
  go_enter Tryz.func51, Tryz.ntmps51
  go_wp2_with fail
  go_ret
  exact ⟨rfl, rfl⟩
def uintF (most : Int) (l : List Int) (e : Int) : Int × List Int × Int :=
  if e ≠ 0 then (0, l, e) else
  let r := numF 0 0 l
  if r.2.2 ≠ 0 then (0, l, r.2.2) else if most < r.1 then (0, l, 22) else (r.1, l.drop r.2.1, 0)
set_option maxRecDepth 100000 in
set_option maxHeartbeats 2000000 in
theorem uint_any (b0 p : Nat) (l : List Int) (x most : Int) (w : World) (h : RdIs b0 w p l x) (hB : ∀ x ∈ l, 0 ≤ x ∧ x ≤ 255) (hm : 0 ≤ most) :
    Calls Tryz.prog 50 #[.pointer (some ⟨p, 0, none⟩), .int .u64 most] w fun e w' => e = .returned (.int .u64 (uintF most l x).1) ∧ RdIs b0 w' p (uintF most l x).2.1 (uintF most l x).2.2 ∧ Keeps (fun k => k = p) w w' := by
  obtain ⟨hb0, v, hBl, hI, hC, hn⟩ := h
  obtain ⟨c0, c1, c2, c3⟩ := rd_cells hBl
  by_cases hx : x = 0
  · subst hx
    obtain ⟨va, vc, rfl, hz⟩ := ints_ends hI
    have hk := numF_k l 0 0
    have hnl := numF_nil (l := l)
    have hnum := number_any _ l w hI hB
    have hI1 := hI.1
    obtain ⟨r, hr⟩ : ∃ r, numF 0 0 l = r := ⟨_, rfl⟩
    unfold uintF
    simp only [hr] at hk hnl hnum ⊢
    obtain ⟨n, k, q⟩ := r
    dsimp only at hk hnl hnum ⊢
    have HI := Lib.hid hI
    have HNL := Lib.hid hnl
    have HZ := Lib.hid hz
    clear hI hnl hz hr
    go_enter Tryz.func50, Tryz.ntmps50
    go_wp2_with fail
    refine hnum.mono ?_
    rintro e w1 ⟨rfl, rfl⟩
    by_cases hq : q = 0
    · by_cases hgt : most < (n : Int)
      · go_wp2_with fail
        go_ret
        exact ⟨rfl, rd_set1 hb0 hBl HI.out hC hn⟩
      · have hv : vc = k → l.drop k = [] := fun e => List.drop_eq_nil_of_le (by have := hC _ _ _ rfl; omega)
        have HV := Lib.hid hv
        clear hv
        go_wp2_with fail
        · go_ret
          have hvk : vc = k := by assumption
          rw [HV.out hvk]
          have hlk : l.length - k = 0 := by have := hC _ _ _ rfl; omega
          rw [hlk]
          exact ⟨rfl, rd_set0 hb0 hBl (ints_no (fun _ => rfl)) (fun a n' c' e => by simp at e; omega) (fun b o n' c' e h0 => by simp at e; omega)⟩
        · go_ret
          exact ⟨rfl, rd_set0 hb0 hBl (ints_drop HI.out (by omega)) (fun a n' c' e => by simp at e; have := hC _ _ _ rfl; omega) (drop_ne HI.out hn)⟩
    · have hq2 : (q == 0) = false := by simpa using hq
      have hq3 : (q != 0) = true := by simpa using hq
      go_wp2_with fail
      go_ret
      exact ⟨rfl, rd_set1 hb0 hBl HI.out hC hn⟩
  · have hx2 : (x != 0) = true := by simpa using hx
    unfold uintF
    rw [if_pos hx]
    go_enter Tryz.func50, Tryz.ntmps50
    go_wp2_with fail
    go_ret
    exact ⟨rfl, ⟨hb0, v, hBl, hI, hC, hn⟩, Keeps.refl _ _⟩
end Go.Proofs.YtcpkpljeimbdiaaGreat.W
namespace Go.Proofs.YtcpkpljeimbdiaaGreat.W
open Go.RowKit
open Aid K
set_option linter.unusedSimpArgs false
set_option linter.unusedVariables false
def By8 (l : List Int) : Prop := ∀ x ∈ l, 0 ≤ x ∧ x ≤ 255
def bytesF (most : Int) (l : List Int) (e : Int) : Option (List Int) × List Int × Int :=
  let u := uintF most l e
  if u.2.2 ≠ 0 then (none, u.2.1, u.2.2) else
  if (u.2.1.length : Int) < u.1 then (none, l, 20) else (some (u.2.1.take u.1.toNat), u.2.1.drop u.1.toNat, 0)
theorem uintF_range (most : Int) (l : List Int) (e : Int) (hm : 0 ≤ most) : 0 ≤ (uintF most l e).1 ∧ (uintF most l e).1 ≤ most := by
  unfold uintF
  split
  · exact ⟨Int.le_refl _, hm⟩
  · dsimp only
    split
    · exact ⟨Int.le_refl _, hm⟩
    · split
      · exact ⟨Int.le_refl _, hm⟩
      · dsimp only; omega
theorem uintF_sub (most : Int) (l : List Int) (e : Int) : ∃ k, (uintF most l e).2.1 = l.drop k := by
  unfold uintF
  split
  · exact ⟨0, rfl⟩
  · dsimp only
    split
    · exact ⟨0, rfl⟩
    · split
      · exact ⟨0, rfl⟩
      · exact ⟨_, rfl⟩
theorem own_keep {O : Nat → Prop} {w w' : World} {base : Nat} {v : Value} {l : List Int} (h : Own w base v l) (hK : Keeps O w w') (hO : ∀ g, base ≤ g → ¬ O g) : Own w' base v l := by
  obtain ⟨h1, h2⟩ := h
  refine ⟨h1, ?_⟩
  rcases h2 with h2 | ⟨g, cap, cur, rfl, hb, hg, rest⟩
  · exact .inl h2
  · exact .inr ⟨g, cap, cur, rfl, hb, (hK.block g (Array.getElem?_eq_some_iff.1 hg).1 (hO g hb)).trans hg, rest⟩
theorem own_base {w : World} {base base' : Nat} {v : Value} {l : List Int} (h : Own w base v l) (hb : base' ≤ base) : Own w base' v l := by
  obtain ⟨h1, h2⟩ := h
  refine ⟨h1, ?_⟩
  rcases h2 with h2 | ⟨g, cap, cur, rfl, hb2, hg, rest⟩
  · exact .inl h2
  · exact .inr ⟨g, cap, cur, rfl, by omega, hg, rest⟩
def BytesEnd (b0 p : Nat) (r : Option (List Int) × List Int × Int) (w : World) (e : Ending) (w' : World) : Prop :=
  ∃ v, e = .returned v ∧ (r.1 = none → v = .slice none 0 0) ∧ (∀ x, r.1 = some x → Own w' w.heap.size v x) ∧ RdIs b0 w' p r.2.1 r.2.2 ∧ Keeps (fun k => k = p) w w'
set_option maxRecDepth 100000 in
set_option maxHeartbeats 2000000 in
theorem bytes_any (b0 p : Nat) (l : List Int) (x : Int) (most : Nat) (w : World) (h : RdIs b0 w p l x) (hB : By8 l) (hm : most ≤ 1000000) :
    Calls Tryz.prog 52 #[.pointer (some ⟨p, 0, none⟩), .int .i64 most] w (BytesEnd b0 p (bytesF most l x) w) := by
  have hu := uint_any b0 p l x most w h hB (by omega)
  have hr := uintF_range most l x (by omega)
  obtain ⟨hb0, v, hBl, hI, hC, hn⟩ := h
  obtain ⟨c0, c1, c2, c3⟩ := rd_cells hBl
  obtain ⟨r, hre⟩ : ∃ r, bytesF most l x = r := ⟨_, rfl⟩
  rw [hre]
  unfold bytesF at hre
  obtain ⟨u, hue⟩ : ∃ u, uintF most l x = u := ⟨_, rfl⟩
  rw [hue] at hu hr hre
  obtain ⟨n, l2, x2⟩ := u
  dsimp only at hu hr hre
  have HRE := Lib.hid hre
  clear hre
  obtain ⟨va, vc, rfl, hz⟩ := ints_ends hI
  have HI := Lib.hid hI
  have HB := Lib.hid hBl
  have HC := Lib.hid hC
  have HN := Lib.hid hn
  have HU := Lib.hid hu
  have hw1 : IntKind.u64.wrap (most : Int) = (most : Int) := by rw [IntKind.wrap_u64]; omega
  clear hI hBl hC hn hu hz hue
  go_enter Tryz.func52, Tryz.ntmps52
  go_wp2_with fail
  refine HU.out.mono ?_
  rintro e w1 ⟨rfl, ⟨_, v2, hB2, hI2, hC2, hn2⟩, hK⟩
  obtain ⟨va2, vc2, rfl, hz2⟩ := ints_ends hI2
  obtain ⟨d0, d1, d2, d3⟩ := rd_cells hB2
  have HI2 := Lib.hid hI2
  have HB2 := Lib.hid hB2
  have HC2 := Lib.hid hC2
  have HN2 := Lib.hid hn2
  have HK := Lib.hid hK
  clear hI2 hB2 hC2 hn2 hK hz2
  by_cases hx : x2 = 0
  · subst hx
    by_cases hlt : (l2.length : Int) < n
    · have hre := HRE.out
      rw [if_neg (by simp), if_pos hlt] at hre
      subst hre
      clear HRE
      have hll := HI2.out.1
      have hw2 : IntKind.u64.wrap (l2.length : Int) = (l2.length : Int) := by rw [IntKind.wrap_u64]; omega
      go_wp2_with fail
      go_ret
      have hI1 := ints_kept HI.out HK.out (fun b o n c e h1 => by rw [HN.out b o n c e h1]; exact hb0)
      have h0 := rd_set0 hb0 HB2.out hI1 HC.out HN.out
      have hI0 := ints_kept hI1 h0.2 (fun b o n c e h1 => by rw [HN.out b o n c e h1]; exact hb0)
      have h1 := rd_set1 hb0 (e' := 20) (HB2.out.set 0 (.slice va l.length vc)) hI0 HC.out HN.out
      exact ⟨_, rfl, fun _ => rfl, fun _ e => (nomatch e), h1.1, (HK.out.trans h0.2 (fun x hx => .inl hx)).trans h1.2 (fun x hx => .inl hx)⟩
    · have hre := HRE.out
      rw [if_neg (by simp), if_neg hlt] at hre
      have HRE := Lib.hid hre
      clear hre
      obtain ⟨n, rfl⟩ := Int.eq_ofNat_of_zero_le hr.1
      have hll := HI2.out.1
      have hw2 : IntKind.u64.wrap (l2.length : Int) = (l2.length : Int) := by rw [IntKind.wrap_u64]; omega
      have hcap : l2.length ≤ vc2 := HC2.out _ _ _ rfl
      have hnl : n ≤ l2.length := by omega
      have hnc : n ≤ vc2 := by omega
      have hpl : p < w1.heap.size := Blk.lt HB2.out
      go_wp2_with fail
      refine (clone_any _ (l2.take n) w1 (ints_take HI2.out hnl)).mono ?_
      rintro e w3 ⟨v3, rfl, hO3, hb3⟩
      have hB3 := HB2.out.below hb3 hpl
      obtain ⟨g0, g1, g2, g3⟩ := rd_cells hB3
      have HB3 := Lib.hid hB3
      have HO3 := Lib.hid hO3
      have HBL := Lib.hid hb3
      obtain ⟨va3, vc3, rfl⟩ := (Ints.own hO3 (by simp; omega)).form
      have htl : (l2.take n).length = n := by rw [List.length_take]; omega
      have hsz := hb3.size
      have hwz := HK.out.size
      clear hB3 hO3 hb3 c1 c2 c3 c0 d0 d1 d2 d3
      have hI3 := Lib.hid (HI2.out.below HBL.out)
      go_wp2_with fail
      · go_ret
        have hvk : vc2 = n := by assumption
        have hre := HRE.out
        rw [Int.toNat_natCast, show l2.drop n = [] from List.drop_eq_nil_of_le (by omega)] at hre
        have hlk : l2.length - n = 0 := by omega
        rw [hlk, ← hre]
        have h0 := rd_set0 hb0 HB3.out (ints_no (a := va2) (c := 0) (fun _ => rfl)) (fun a n' c' e => by simp at e; omega) (fun b o n' c' e h0 => by simp at e; omega)
        have ho := own_base (own_keep HO3.out h0.2 (fun g hg e => by omega)) hwz
        rw [htl] at ho
        exact ⟨_, rfl, fun e => (nomatch e), fun x e => by cases e; exact ho, h0.1, (HK.out.trans (Keeps.of_below HBL.out) (fun x hx => .inl hx)).trans h0.2 (fun x hx => .inl hx)⟩
      · go_ret
        have hre := HRE.out
        rw [Int.toNat_natCast] at hre
        rw [← hre]
        have h0 := rd_set0 hb0 HB3.out (ints_drop hI3.out hnl) (fun a n' c' e => by simp at e; omega) (drop_ne hI3.out HN2.out)
        have ho := own_base (own_keep HO3.out h0.2 (fun g hg e => by omega)) hwz
        rw [htl] at ho
        exact ⟨_, rfl, fun e => (nomatch e), fun x e => by cases e; exact ho, h0.1, (HK.out.trans (Keeps.of_below HBL.out) (fun x hx => .inl hx)).trans h0.2 (fun x hx => .inl hx)⟩
  · have hre := HRE.out
    rw [if_pos hx] at hre
    subst hre
    clear HRE
    have hx1 : (x2 == 0) = false := by simpa using hx
    have hx3 : (x2 != 0) = true := by simpa using hx
    go_wp2_with fail
    go_ret
    exact ⟨_, rfl, fun _ => rfl, fun _ e => (nomatch e), ⟨hb0, _, HB2.out, HI2.out, HC2.out, HN2.out⟩, HK.out⟩
end Go.Proofs.YtcpkpljeimbdiaaGreat.W
namespace Go.Proofs.YtcpkpljeimbdiaaGreat.K
open Go.RowKit
open Aid
set_option linter.unusedSimpArgs false
set_option linter.unusedVariables false
set_option maxRecDepth 100000 in
set_option maxHeartbeats 1000000 in
theorem read_gone (O : Nat → Prop) (p : Nat) (st : DSt) (area n : Int) (w : World) (h : DiskIs O w p st) (ha : (Lit.int .u64 area).wf = true) (hn : (Lit.int .i64 n).wf = true) (hF : st.F area n = none) :
    Calls Tryz.prog 66 #[.pointer (some ⟨p, 0, none⟩), .int .u64 area, .int .i64 n] w fun e w' => e = .returned (.tuple #[.slice none 0 0, .bool false]) ∧ Below w.heap.size w w' := by
  obtain ⟨m, G, hD⟩ := h
  obtain ⟨c0, c1, c2, c3, c4⟩ := hD.cells
  have hL1 := hD.area ha
  obtain ⟨sv, sb, hL2, hsv⟩ := hD.sector (a := area) hn
  rw [hF] at hL2
  simp only [Option.isSome_none] at hL2
  have hb : ∀ sv : Value, Below w.heap.size w (w.alloc (.cells #[sv, .bool sb] 68)) := fun sv => (Below.refl _ _).alloc (Nat.le_refl _) _
  obtain ⟨a, l, c, rfl⟩ : ∃ a l c, sv = .slice a l c := by
    rcases hsv with ⟨_, e, _⟩ | ⟨s', e, _⟩
    · exact ⟨_, _, _, e⟩
    · rw [hF] at e; cases e
  clear hsv
  go_enter Tryz.func66, Tryz.ntmps66
  go_wp2_with fail
  go_ret2
  exact ⟨rfl, hb _⟩
end Go.Proofs.YtcpkpljeimbdiaaGreat.K
namespace Go.Proofs.YtcpkpljeimbdiaaGreat.W
open Go.RowKit
open Aid K
set_option linter.unusedSimpArgs false
set_option linter.unusedVariables false
theorem wf_u64 {x : Int} (h0 : 0 ≤ x) (h1 : x < 18446744073709551616) : (Lit.int .u64 x).wf = true := by
  simp [Lit.wf, IntKind.min, IntKind.max, IntKind.signed, IntKind.bits]; omega
theorem wf_i64 {x : Int} (h0 : 0 ≤ x) (h1 : x ≤ 1000000) : (Lit.int .i64 x).wf = true := by
  simp [Lit.wf, IntKind.min, IntKind.max, IntKind.signed, IntKind.bits]; omega
theorem area_any (n : Int) (w : World) (h0 : 0 ≤ n) (h1 : 4 * n + 1 < 18446744073709551616) : Calls Tryz.prog 39 #[.int .u64 n] w fun e w' => e = .returned (.int .u64 (4 * n + 1)) ∧ w' = w := by
  have hw : IntKind.u64.wrap (4 * n) = 4 * n := by rw [IntKind.wrap_u64]; omega
  have hw2 : IntKind.u64.wrap (4 * n + 1) = 4 * n + 1 := by rw [IntKind.wrap_u64]; omega
  go_enter Tryz.func39, Tryz.ntmps39
  go_wp2_with fail
  go_ret
  exact ⟨rfl, rfl⟩
structure Sects (st : DSt) : Prop where
  full : ∀ a m L s, st.F a m = some (L, s) → L ≠ [] ∧ (L.getLastD ByteArray.empty).size = 64
  few : ∀ a m, (st.F a m).isSome = true → 0 ≤ m ∧ m < 65536
def sectF (st : DSt) (a : Int) (n : Nat) : Option (List Int) := (st.F a n).map fun s => bytesI (s.1.getLastD ByteArray.empty)
def usedF (s : List Int) : Nat := min (s.getD 0 0).toNat 63
def textF (st : DSt) (a : Int) : Nat → Nat → List Int
  | 0, _ => []
  | f + 1, n => match sectF st a n with
    | none => []
    | some s => (s.drop 1).take (usedF s) ++ (if usedF s < 63 then [] else textF st a f (n + 1))
theorem bytesI_by (b : ByteArray) : By8 (bytesI b) := by
  intro x hx
  unfold bytesI at hx
  obtain ⟨y, _, rfl⟩ := List.mem_map.1 hx
  have := y.toNat_lt
  omega
theorem getD_by {l : List Int} (h : By8 l) (k : Nat) : ∃ m : Nat, l.getD k 0 = (m : Int) ∧ m < 256 := by
  by_cases hk : k < l.length
  · have h1 := h (l.getD k 0) (by rw [List.getD_eq_getElem?_getD, List.getElem?_eq_getElem hk]; exact List.getElem_mem hk)
    exact ⟨(l.getD k 0).toNat, by omega, by omega⟩
  · exact ⟨0, by rw [List.getD_eq_getElem?_getD, List.getElem?_eq_none (by omega)]; rfl, by omega⟩
theorem ints_mid {w : World} {b o N c k : Nat} {s : List Int} (h : Ints w .u8 (.slice (some ⟨b, o, none⟩) N c) s) (hk : 1 + k ≤ N) : Ints w .u8 (.slice (some ⟨b, o + 1, none⟩) (1 + k - 1) (c - 1)) ((s.drop 1).take k) := by
  have h1 := ints_drop (ints_take h hk) (k := 1) (by omega)
  rw [List.drop_take, show 1 + k - 1 = k by omega] at h1
  rw [show 1 + k - 1 = k by omega]
  simpa [add_any] using h1
def JF (j f : Nat) : Prop := j + f = 65537 ∧ j ≤ 65536
theorem JF.start : JF 0 65537 := ⟨rfl, by omega⟩
theorem JF.pos {j f : Nat} (h : JF j f) : ∃ f', f = f' + 1 := ⟨f - 1, by have h1 := h.1; have h2 := h.2; omega⟩
theorem JF.next {j f : Nat} (h : JF j (f + 1)) (hj : (j : Int) < 65536) : JF (j + 1) f := ⟨by have h1 := h.1; omega, by omega⟩
def msr (v : Value) : Nat := (65537 - intOf v).toNat
theorem JF.less {j f : Nat} (h : JF j (f + 1)) : msr (.int .i64 ((j + 1 : Nat) : Int)) < msr (.int .i64 (j : Int)) := by
  have h1 := h.1
  have h2 := h.2
  show (65537 - ((j + 1 : Nat) : Int)).toNat < (65537 - (j : Int)).toNat
  omega
theorem JF.le {j f : Nat} (h : JF j f) : j ≤ 65536 := h.2
def TextEnd (t : List Int) (w : World) (e : Ending) (w' : World) : Prop := ∃ v, e = .returned v ∧ Own w' w.heap.size v t ∧ Below w.heap.size w w'
set_option maxRecDepth 100000 in
set_option maxHeartbeats 2000000 in
theorem text_any (O : Nat → Prop) (p : Nat) (st : DSt) (n : Int) (w : World) (h : DiskIs O w p st) (hS : Sects st) (h0 : 0 ≤ n) (h1 : 4 * n + 1 < 18446744073709551616) :
    Calls Tryz.prog 49 #[.pointer (some ⟨p, 0, none⟩), .int .u64 n] w (TextEnd (textF st (4 * n + 1) 65537 0) w) := by
  obtain ⟨iu, hiu, hzu, hsu, hbu⟩ := parts_u8
  have HS := Lib.hid hS
  have HD := Lib.hid h
  clear hS h
  go_enter Tryz.func49, Tryz.ntmps49
  go_wp2_with fail
  obtain ⟨T, hT⟩ : ∃ T, textF st (4 * n + 1) 65537 0 = T := ⟨_, rfl⟩
  rw [hT]
  go_loopw [5, 6] (fun x5 x6 wr => ∃ (j f : Nat) (l : List Int), x6 = .int .i64 j ∧ Hid (JF j f) ∧ l.length ≤ 63 * j ∧ Own wr w.heap.size x5 l ∧ Below w.heap.size w wr ∧ Hid (T = l ++ textF st (4 * n + 1) f j)) (fun _ x6 _ => msr x6)
  case atStart => exact ⟨0, 65537, [], rfl, Lib.hid JF.start, by simp, World.ownsRow_nil _ _ _ _, Below.refl _ _, Lib.hid hT.symm⟩
  case round =>
    clear hT
    obtain ⟨j, f, l, rfl, hjf, hl, hO, hb, hht⟩ := hrel
    have hj := hjf.out.le
    obtain ⟨f, rfl⟩ := hjf.out.pos
    have ht := hht.out
    clear hht
    rw [textF] at ht
    have hs := hb.size
    have harea := area_any n wr h0 h1
    have HO := Lib.hid hO
    have HB := Lib.hid hb
    have hIo := Ints.own hO (by omega)
    obtain ⟨oa, oc, hoe⟩ := hIo.form
    subst hoe
    clear hO hb hIo
    cases hq : sectF st (4 * n + 1) j with
    | none =>
      rw [hq] at ht
      simp only [List.append_nil] at ht
      have hq2 : st.F (4 * n + 1) j = none := by simpa [sectF] using hq
      have hm := read_gone O p st (4 * n + 1) j wr (HD.out.below HB.out) (wf_u64 (by omega) h1) (wf_i64 (by omega) (by omega)) hq2
      subst ht
      clear hq hq2
      go_wp2_with fail
      refine harea.mono ?_
      rintro e wq ⟨rfl, rfl⟩
      go_wp2_with fail
      refine hm.mono ?_
      rintro e w2 ⟨rfl, hb2⟩
      go_wp2_with fail
      go_ret
      exact ⟨_, rfl, owns_below HO.out hb2, HB.out.trans (hb2.mono hs)⟩
    | some s =>
      rw [hq] at ht
      have hq2 : ∃ L sy, st.F (4 * n + 1) j = some (L, sy) ∧ s = bytesI (L.getLastD ByteArray.empty) := by
        unfold sectF at hq
        cases e : st.F (4 * n + 1) j with
        | none => rw [e] at hq; cases hq
        | some x => rw [e] at hq; cases hq; exact ⟨x.1, x.2, rfl, rfl⟩
      obtain ⟨L, sy, hF, hse⟩ := hq2
      obtain ⟨hne, h64⟩ := HS.out.full _ _ _ _ hF
      have hfew := (HS.out.few (4 * n + 1) j (by rw [hF]; rfl)).2
      have hgl : L.getLast hne = L.getLastD ByteArray.empty := by rw [List.getLastD_eq_getLast?, List.getLast?_eq_some_getLast hne]; rfl
      have hr := read_there O p st (4 * n + 1) j L sy wr (HD.out.below HB.out) (wf_u64 (by omega) h1) (wf_i64 (by omega) (by omega)) hF hne (by rw [hgl]; omega)
      rw [hgl, ← hse] at hr
      have hby : By8 s := by rw [hse]; exact bytesI_by _
      have hsl : s.length = 64 := by rw [hse]; simp only [bytesI, List.length_map, Array.length_toList]; exact h64
      have hHR := Lib.hid hr
      have HT := Lib.hid ht
      clear hq hF hse hgl hr ht hne h64
      go_wp2_with fail
      refine harea.mono ?_
      rintro e wq ⟨rfl, rfl⟩
      go_wp2_with fail
      refine hHR.out.mono ?_
      rintro e w2 ⟨⟨v2, rfl, hI2, hc2⟩, hb2⟩
      obtain ⟨a2, c2, rfl⟩ := hI2.form
      obtain ⟨b, o, rfl, hbl, hcell⟩ := hI2.at_ (k := 0) (by omega) rfl
      rw [Nat.add_zero] at hcell
      have hcap := (hc2 b o _ _ rfl).2
      obtain ⟨N, hN⟩ : ∃ N, s.length = N := ⟨_, rfl⟩
      rw [hN] at hcap hI2 hc2 hsl
      rw [hN]
      have hN0 : 0 < N := by omega
      have hN1 : 63 < N := by omega
      have HN := Lib.hid hN
      clear hN
      obtain ⟨k, hk, hk8⟩ := getD_by hby 0
      rw [hk] at hcell
      have hu : usedF s = min k 63 := by unfold usedF; rw [hk]; rfl
      have HI2 := Lib.hid hI2
      have HU := Lib.hid hu
      have HK := Lib.hid hk
      have HSL := Lib.hid hsl
      have hO2 := owns_below HO.out hb2
      have hs2 := hb2.size
      have HO2 := Lib.hid hO2
      have HB2 := Lib.hid hb2
      clear hu hk hsl hI2 hc2 hO2 hb2 HO hHR harea
      have hbw := HB.out.trans (HB2.out.mono hs)
      have HBW := Lib.hid hbw
      have hw2s : w.heap.size ≤ w2.heap.size := by omega
      have hinext : IntKind.i64.wrap ((j : Int) + 1) = ((j + 1 : Nat) : Int) := IntWalk.i64_in _ (by omega)
      clear hbw hby
      by_cases h63 : (k : Int) < 63
      · have hI3 := ints_mid (k := k) HI2.out (by omega)
        have hl3 : ((s.drop 1).take k).length ≤ 63 := by rw [List.length_take]; omega
        have HI3 := Lib.hid hI3
        clear hI3
        go_wp2_with (at_builtin; refine wpList_append_ints _ (by rfl) _ _ 49 rfl w.heap.size 5 iu (.int .u8 0) 1 Tryz.underlying49 hiu hzu hsu hbu rfl .u8 _ _ _ rfl HO2.out _ ((s.drop 1).take k) rfl HI3.out (by unfold maxLen; omega) (by omega) hw2s ?_; intro v' w4 hown4 hb4)
        go_ret
        refine ⟨v', rfl, ?_, HBW.out.trans hb4⟩
        have ht := HT.out
        have hu63 : usedF s = k := by have := HU.out; omega
        rw [hu63, if_pos (by omega), List.append_nil] at ht
        rw [ht]
        show World.ownsRow _ _ _ _ _ _ _
        rw [List.length_append, List.map_append]
        exact hown4
      · obtain ⟨u, hu⟩ : ∃ u : Nat, u = 63 := ⟨_, rfl⟩
        have hmin : (if (63 : Int) < (k : Int) then (63 : Int) else (k : Int)) = (u : Int) := by split <;> omega
        have hI3 := ints_mid (k := u) HI2.out (by omega)
        have hl3 : ((s.drop 1).take u).length ≤ 63 := by rw [List.length_take]; omega
        have hu1 : 1 + u ≤ N := by omega
        have hu2 : ¬ ((u : Int) < 63) := by omega
        have hu3 : u < 64 := by omega
        have HI3 := Lib.hid hI3
        have HUE := Lib.hid hu
        clear hI3 hu
        go_wp2_with (at_builtin; refine wpList_append_ints _ (by rfl) _ _ 49 rfl w.heap.size 5 iu (.int .u8 0) 1 Tryz.underlying49 hiu hzu hsu hbu rfl .u8 _ _ _ rfl HO2.out _ ((s.drop 1).take u) rfl HI3.out (by unfold maxLen; omega) (by omega) hw2s ?_; intro v' w4 hown4 hb4; have HF := Lib.hid (And.intro hl3 (And.intro hj (And.intro hl hfew))); clear hmin hl3 hu1 hu3 hk8 hcap hN0 hN1 hfew hinext hj hl hs hs2 hw2s)
        obtain ⟨hl3, hj, hl, hfew⟩ := HF.out
        rw [HUE.out] at hown4 hl3
        have hinext : wrap64 ((j : Int) + 1) = ((j + 1 : Nat) : Int) := by rw [← IntWalk.i64_left]; exact IntWalk.i64_in _ (by omega)
        rw [hinext]
        have ht := HT.out
        have hu63 : usedF s = 63 := by have := HU.out; omega
        rw [hu63, if_neg (Nat.lt_irrefl 63), ← List.append_assoc] at ht
        clear hu63 hinext
        have HT2 := Lib.hid ht
        clear ht
        have hlen2 : (l ++ (s.drop 1).take 63).length ≤ 63 * (j + 1) := by rw [List.length_append]; omega
        have HJN := Lib.hid (hjf.out.next hfew)
        refine ⟨⟨j + 1, f, l ++ (s.drop 1).take 63, ?_, HJN, hlen2, ?_, HBW.out.trans hb4, HT2⟩, ?_⟩
        · rfl
        · show World.ownsRow _ _ _ _ _ _ _
          rw [List.length_append, List.map_append]
          exact hown4
        · exact hjf.out.less
end Go.Proofs.YtcpkpljeimbdiaaGreat.W
namespace Go.Proofs.YtcpkpljeimbdiaaGreat.W
open Go.RowKit
open Aid K
set_option linter.unusedSimpArgs false
set_option linter.unusedVariables false
def walV (o : Value) (d : Nat) (first : Int) (l old : Value) (next code : Int) : Array Value := #[o, .pointer (some ⟨d, 0, none⟩), .int .u64 first, l, old, .int .u64 next, .int .i64 code]
theorem blk7 {w : World} {b : Nat} {T : TypeId} {c0 c1 c2 c3 c4 c5 c6 : Value} (h : Blk w b T #[c0, c1, c2, c3, c4, c5, c6]) :
    w.cell? ⟨b, 0, none⟩ = some c0 ∧ w.cell? ⟨b, 1, none⟩ = some c1 ∧ w.cell? ⟨b, 2, none⟩ = some c2 ∧ w.cell? ⟨b, 3, none⟩ = some c3 ∧ w.cell? ⟨b, 4, none⟩ = some c4 ∧ w.cell? ⟨b, 5, none⟩ = some c5 ∧ w.cell? ⟨b, 6, none⟩ = some c6 :=
  ⟨h.cell 0, h.cell 1, h.cell 2, h.cell 3, h.cell 4, h.cell 5, h.cell 6⟩
theorem free7 {w : World} {b : Nat} {T : TypeId} {c0 c1 c2 c3 c4 c5 c6 : Value} (h : Blk w b T #[c0, c1, c2, c3, c4, c5, c6]) :
    w.frozen? ⟨b, 0, none⟩ = false ∧ w.frozen? ⟨b, 1, none⟩ = false ∧ w.frozen? ⟨b, 2, none⟩ = false ∧ w.frozen? ⟨b, 3, none⟩ = false ∧ w.frozen? ⟨b, 4, none⟩ = false ∧ w.frozen? ⟨b, 5, none⟩ = false ∧ w.frozen? ⟨b, 6, none⟩ = false :=
  ⟨h.free 0, h.free 1, h.free 2, h.free 3, h.free 4, h.free 5, h.free 6⟩
set_option maxRecDepth 100000 in
theorem first_any (g : Nat) (o : Value) (d : Nat) (first : Int) (l old : Value) (next code : Int) (w : World) (h : Blk w g 75 (walV o d first l old next code)) :
    Calls Tryz.prog 12 #[.pointer (some ⟨g, 0, none⟩)] w fun e w' => e = .returned (.int .u64 first) ∧ w' = w := by
  obtain ⟨c0, c1, c2, c3, c4, c5, c6⟩ := blk7 h
  go_enter Tryz.func12, Tryz.ntmps12
  go_wp2_with fail
  go_ret
  exact ⟨rfl, rfl⟩
set_option maxRecDepth 100000 in
theorem last_any (g : Nat) (o : Value) (d : Nat) (first : Int) (a : Option Addr) (n c : Nat) (old : Value) (next code : Int) (w : World) (h : Blk w g 75 (walV o d first (.slice a n c) old next code)) (hn : n < 9223372036854775808) :
    Calls Tryz.prog 13 #[.pointer (some ⟨g, 0, none⟩)] w fun e w' => e = .returned (.int .u64 (IntKind.u64.wrap (IntKind.u64.wrap (first + n) - 1))) ∧ Below w.heap.size w w' := by
  obtain ⟨c0, c1, c2, c3, c4, c5, c6⟩ := blk7 h
  have hw : IntKind.u64.wrap (n : Int) = (n : Int) := by rw [IntKind.wrap_u64]; omega
  go_enter Tryz.func13, Tryz.ntmps13
  go_wp2_with fail
  go_quiet (fail)
  go_wp2_with fail
  go_ret
  exact ⟨rfl, below_drewN (Below.refl _ _) nq⟩
theorem wal_no {w : World} {g : Nat} {o : Value} {d : Nat} {first : Int} {l old : Value} {next code : Int} (h : Blk w g 75 (walV o d first l old next code)) : ¬ StrRow w g := StrRow.no_blk h (by decide)
set_option maxRecDepth 100000 in
theorem did_any (g : Nat) (o : Value) (d : Nat) (first : Int) (l old : Value) (next code e0 : Int) (w : World) (h : Blk w g 75 (walV o d first l old next code)) :
    Calls Tryz.prog 37 #[.pointer (some ⟨g, 0, none⟩), .int .i64 e0] w fun e w' => e = .returned (.int .i64 (if code = 0 then e0 else code)) ∧ Blk w' g 75 (walV o d first l old next (if code = 0 then e0 else code)) ∧ Keeps (fun k => k = g) w w' ∧ w'.heap.size = w.heap.size := by
  obtain ⟨c0, c1, c2, c3, c4, c5, c6⟩ := blk7 h
  obtain ⟨f0, f1, f2, f3, f4, f5, f6⟩ := free7 h
  by_cases hc : code = 0
  · subst hc
    rw [if_pos rfl]
    go_enter Tryz.func37, Tryz.ntmps37
    go_wp2_with fail
    go_ret
    exact ⟨rfl, h.set 6 _, set_keeps (Keeps.refl _ _) rfl (wal_no h), by simp [World.setCell]⟩
  · rw [if_neg hc]
    have hc2 : (code == 0) = false := by simpa using hc
    go_enter Tryz.func37, Tryz.ntmps37
    go_wp2_with fail
    go_ret
    exact ⟨rfl, h, Keeps.refl _ _, rfl⟩
end Go.Proofs.YtcpkpljeimbdiaaGreat.W
namespace Go.Proofs.YtcpkpljeimbdiaaGreat.W
open Go.RowKit
open Aid K
set_option linter.unusedSimpArgs false
set_option linter.unusedVariables false
def setL (cs : Array Value) : Nat → List Value → Array Value
  | _, [] => cs
  | o, v :: r => setL (cs.setIfInBounds o v) (o + 1) r
theorem setL_size : ∀ (vs : List Value) (o : Nat) (cs : Array Value), (setL cs o vs).size = cs.size
  | [], _, _ => rfl
  | v :: r, o, cs => (setL_size r (o + 1) _).trans (by simp)
theorem Blk.setCells {g : Nat} {t : TypeId} : ∀ (vs : List Value) (o : Nat) {w : World} {cs : Array Value}, Blk w g t cs → Blk (w.setCells g o vs) g t (setL cs o vs)
  | [], _, _, _, h => h
  | v :: r, o, _, _, h => Blk.setCells r (o + 1) (h.set o v)
theorem setL_get : ∀ (vs : List Value) (o : Nat) (cs : Array Value), o + vs.length ≤ cs.size → ∀ j, (setL cs o vs)[j]? = if o ≤ j ∧ j < o + vs.length then vs[j - o]? else cs[j]?
  | [], o, cs, h, j => by rw [if_neg (by simp only [List.length_nil]; omega)]; rfl
  | v :: r, o, cs, h, j => by
    rw [List.length_cons] at h
    rw [setL, setL_get r (o + 1) _ (by simp; omega)]
    by_cases h1 : o + 1 ≤ j ∧ j < o + 1 + r.length
    · rw [if_pos h1, if_pos (by rw [List.length_cons]; omega), show j - o = (j - (o + 1)) + 1 by omega, List.getElem?_cons_succ]
    · rw [if_neg h1]
      by_cases h2 : j = o
      · subst h2
        rw [if_pos (by rw [List.length_cons]; omega), Nat.sub_self]
        simp only [List.getElem?_cons_zero, Array.setIfInBounds]
        simp [show j < cs.size by omega]
      · rw [if_neg (by rw [List.length_cons]; omega)]
        simp [Array.getElem?_setIfInBounds, show o ≠ j by omega]
theorem setCells_keeps (g : Nat) : ∀ (vs : List Value) (o : Nat) {w0 w : World} {T : TypeId} {cs : Array Value}, Blk w g T cs → T ≠ 9 → Keeps (fun x => x = g) w0 w → Keeps (fun x => x = g) w0 (w.setCells g o vs)
  | [], _, _, _, _, _, _, _, h => h
  | v :: r, o, w0, w, T, cs, hB, hT, h => setCells_keeps g r (o + 1) (hB.set o v) hT (set_keeps h rfl (StrRow.no_blk hB hT))
def OffRow (w : World) (T : TypeId) (size : Nat) (v : Value) (n : Nat) (xs : List Value) : Prop :=
  xs.length = n * size ∧ ((v = .slice none 0 0 ∧ n = 0) ∨ ∃ b off cap cur, v = .slice (some ⟨b, off, none⟩) n cap ∧ Blk w b T cur ∧ n ≤ cap ∧ cap ≤ maxLen ∧ off + cap * size ≤ cur.size ∧ ∀ j u, xs[j]? = some u → cur[off + j]? = some u)
theorem OffRow.nil (w : World) (T : TypeId) (size : Nat) : OffRow w T size (.slice none 0 0) 0 [] := ⟨by simp, .inl ⟨rfl, rfl⟩⟩
theorem OffRow.of_own {w : World} {base : Nat} {T : TypeId} {size : Nat} {v : Value} {n : Nat} {xs : List Value} (h : w.ownsRow base T size v n xs) : OffRow w T size v n xs := by
  obtain ⟨h1, h2 | ⟨g, cap, cur, rfl, hb, hg, h2, h3, h4, h5⟩⟩ := h
  · exact ⟨h1, .inl h2⟩
  · refine ⟨h1, .inr ⟨g, 0, cap, cur, rfl, hg, h2, h3, by omega, fun j u hj => ?_⟩⟩
    rw [← h5, List.getElem?_take] at hj
    split at hj
    · rw [Nat.zero_add, ← Array.getElem?_toList]; exact hj
    · cases hj
theorem OffRow.keep {O : Nat → Prop} {w w' : World} {T : TypeId} {size : Nat} {v : Value} {n : Nat} {xs : List Value} (h : OffRow w T size v n xs) (hK : Keeps O w w') (hO : ∀ k, v.ownBlock = some k → ¬ O k) : OffRow w' T size v n xs := by
  obtain ⟨h1, h2 | ⟨b, off, cap, cur, rfl, hb, h3⟩⟩ := h
  · exact ⟨h1, .inl h2⟩
  · exact ⟨h1, .inr ⟨b, off, cap, cur, rfl, (hK.block b (Blk.lt hb) (hO b rfl)).trans hb, h3⟩⟩
theorem OffRow.lt {w : World} {T : TypeId} {size : Nat} {v : Value} {n : Nat} {xs : List Value} (h : OffRow w T size v n xs) : ∀ k, v.ownBlock = some k → k < w.heap.size := by
  intro k hk
  obtain ⟨h1, ⟨rfl, _⟩ | ⟨b, off, cap, cur, rfl, hb, h3⟩⟩ := h
  · cases hk
  · cases hk; exact Blk.lt hb
theorem OffRow.slice {w : World} {T : TypeId} {size : Nat} {v : Value} {n : Nat} {xs : List Value} (h : OffRow w T size v n xs) : ∃ a c, v = .slice a n c ∧ n ≤ c ∧ (a = none → c = 0) := by
  obtain ⟨h1, ⟨rfl, rfl⟩ | ⟨b, off, cap, cur, rfl, hb, h2, h3⟩⟩ := h
  · exact ⟨none, 0, rfl, Nat.le_refl _, fun _ => rfl⟩
  · exact ⟨_, cap, rfl, h2, fun e => (nomatch e)⟩
theorem OffRow.take {w : World} {T : TypeId} {size : Nat} {a : Option Addr} {n c : Nat} {xs : List Value} (h : OffRow w T size (.slice a n c) n xs) {k : Nat} (hk : k ≤ n) : OffRow w T size (.slice a k c) k (xs.take (k * size)) := by
  obtain ⟨h1, ⟨h2, rfl⟩ | ⟨b, off, cap, cur, h2, hb, h3, h4, h5, h6⟩⟩ := h
  · cases h2
    obtain rfl : k = 0 := by omega
    exact ⟨by simp, .inl ⟨rfl, rfl⟩⟩
  · cases h2
    refine ⟨by rw [List.length_take]; have := Nat.mul_le_mul_right size hk; omega, .inr ⟨b, off, c, cur, rfl, hb, by omega, h4, h5, fun j u hj => ?_⟩⟩
    rw [List.getElem?_take] at hj
    split at hj
    · exact h6 j u hj
    · cases hj
theorem OffRow.drop {w : World} {T : TypeId} {size : Nat} {a : Option Addr} {n c : Nat} {xs : List Value} (h : OffRow w T size (.slice a n c) n xs) {k : Nat} (hk : k ≤ n) : OffRow w T size (.slice (a.map fun x => x.add (k * size)) (n - k) (c - k)) (n - k) (xs.drop (k * size)) := by
  obtain ⟨h1, ⟨h2, rfl⟩ | ⟨b, off, cap, cur, h2, hb, h3, h4, h5, h6⟩⟩ := h
  · cases h2
    obtain rfl : k = 0 := by omega
    exact ⟨by simp [h1], .inl ⟨by simp, rfl⟩⟩
  · cases h2
    have e1 : (⟨b, off, none⟩ : Addr).add (k * size) = ⟨b, off + k * size, none⟩ := by unfold Addr.add; split <;> simp_all
    have e2 : (c - k) * size = c * size - k * size := Nat.sub_mul _ _ _
    have e3 := Nat.mul_le_mul_right size (show k ≤ c by omega)
    have e4 := Nat.mul_le_mul_right size hk
    refine ⟨by rw [List.length_drop, h1, Nat.sub_mul], .inr ⟨b, off + k * size, c - k, cur, by simp [e1], hb, by omega, by omega, by omega, fun j u hj => ?_⟩⟩
    rw [List.getElem?_drop] at hj
    rw [Nat.add_assoc]
    exact h6 _ u hj
end Go.Proofs.YtcpkpljeimbdiaaGreat.W
namespace Go.Proofs.YtcpkpljeimbdiaaGreat.W
open Go.RowKit
open Aid K
set_option linter.unusedSimpArgs false
set_option linter.unusedVariables false
structure Recs (Q : Nat → Prop) (w : World) (lv : Value) (L : List (List Int)) (vs : List Value) : Prop where
  len : vs.length = L.length
  row : OffRow w 49 1 lv vs.length vs
  ints : ∀ (j : Nat) (v : Value) (l : List Int), vs[j]? = some v → L[j]? = some l → Ints w .u8 v l ∧ ∀ k, v.ownBlock = some k → ¬ Q k ∧ k < w.heap.size
def GetEnd (L : List (List Int)) (first i : Int) (w : World) (e : Ending) (w' : World) : Prop :=
  Below w.heap.size w w' ∧ ((i < first ∨ first + L.length ≤ i) → e = .returned (.tuple #[.slice none 0 0, .bool false])) ∧
    (∀ (j : Nat) (l : List Int), i = first + j → L[j]? = some l → ∃ v, e = .returned (.tuple #[v, .bool true]) ∧ Own w' w.heap.size v l)
set_option maxRecDepth 100000 in
set_option maxHeartbeats 2000000 in
theorem get_any (Q : Nat → Prop) (g : Nat) (o : Value) (d : Nat) (first : Int) (lv old : Value) (next code : Int) (L : List (List Int)) (vs : List Value) (i : Int) (w : World) (h : Blk w g 75 (walV o d first lv old next code)) (hR : Recs Q w lv L vs)
    (hf : 0 ≤ first ∧ first < 18446744073709551616) (hi : 0 ≤ i ∧ i < 18446744073709551616) (hL : L.length < 4611686018427387904) :
    Calls Tryz.prog 16 #[.pointer (some ⟨g, 0, none⟩), .int .u64 i] w (GetEnd L first i w) := by
  obtain ⟨a, c, rfl, hnc, hz⟩ := hR.row.slice
  have HL := hR.len
  obtain ⟨c0, c1, c2, c3, c4, c5, c6⟩ := blk7 h
  have hwn : IntKind.u64.wrap (vs.length : Int) = (vs.length : Int) := by rw [IntKind.wrap_u64]; omega
  by_cases h1 : i < first
  · go_enter Tryz.func16, Tryz.ntmps16
    go_wp2_with fail
    go_quiet (fail)
    go_wp2_with fail
    go_ret2
    exact ⟨below_drewN (Below.refl _ _) nq, fun _ => rfl, fun j l e => by omega⟩
  · obtain ⟨j, hj⟩ : ∃ j : Nat, i = first + j := ⟨(i - first).toNat, by omega⟩
    have hsub : IntKind.u64.wrap (i - first) = (j : Int) := by rw [IntKind.wrap_u64]; omega
    have hdec : decide (i < first) = false := decide_eq_false h1
    have HJ := Lib.hid hj
    clear hj
    by_cases h2 : vs.length ≤ j
    · have h2' : (vs.length : Int) ≤ (j : Int) := by omega
      go_enter Tryz.func16, Tryz.ntmps16
      go_wp2_with fail
      go_quiet (fail)
      go_wp2_with fail
      go_ret2
      refine ⟨below_drewN (Below.refl _ _) nq, fun _ => rfl, fun j' l e hl => ?_⟩
      have := (List.getElem?_eq_some_iff.1 hl).1
      have := HJ.out
      omega
    · have h2' : ¬ ((vs.length : Int) ≤ (j : Int)) := by omega
      have hdec2 : decide ((vs.length : Int) ≤ (j : Int)) = false := decide_eq_false h2'
      obtain ⟨v, hv⟩ : ∃ v, vs[j]? = some v := ⟨_, List.getElem?_eq_getElem (by omega)⟩
      obtain ⟨l, hl⟩ : ∃ l, L[j]? = some l := ⟨_, List.getElem?_eq_getElem (by omega)⟩
      have hI := (hR.ints j v l hv hl).1
      have hcl := clone_any v l w hI
      obtain ⟨hl0, ⟨e0, e1⟩ | ⟨b, off, cap, cur, e0, hb, e1, e2, e3, e4⟩⟩ := hR.row
      · omega
      · cases e0
        have hcell : w.cell? ⟨b, off + j, none⟩ = some v := (hb.cell _).trans (e4 j v hv)
        have hjn : j < vs.length := by omega
        have HI := Lib.hid hI
        have HCL := Lib.hid hcl
        have HVV := Lib.hid (And.intro hv (And.intro hl HJ.out))
        have hgl := Blk.lt h
        have hbl := Blk.lt hb
        have HLE := Lib.hid HL
        clear hI hcl hv hl e4 hb hl0 hR h HL
        go_enter Tryz.func16, Tryz.ntmps16
        go_wp2_with fail
        go_quiet (fail)
        go_wp2_with fail
        obtain ⟨wa, hwa⟩ : ∃ wa, w.drewN nq = wa := ⟨_, rfl⟩
        have hbwa : Below w.heap.size w wa := by rw [← hwa]; exact below_drewN (Below.refl _ _) nq
        rw [hwa]
        have hsz : wa.heap.size = w.heap.size := by rw [← hwa]; rfl
        have HALL := Lib.hid (show ∀ w', Below wa.heap.size wa w' → Below wa.heap.size wa w' ∧ w'.cell? ⟨g, 2, none⟩ = some (.int .u64 first) ∧ w'.cell? ⟨g, 3, none⟩ = some (.slice (some ⟨b, off, none⟩) vs.length c) ∧ w'.cell? ⟨b, off + j, none⟩ = some v from fun w' hb' => by
          have hb2 := hbwa.trans (hb'.mono hbwa.size)
          exact ⟨hb', (hb2.cell (p := ⟨g, 2, none⟩) hgl).trans c2, (hb2.cell (p := ⟨g, 3, none⟩) hgl).trans c3, (hb2.cell (p := ⟨b, off + j, none⟩) hbl).trans hcell⟩)
        have HCW := Lib.hid (show ∀ w', Below wa.heap.size wa w' → Calls Tryz.prog 36 #[v] w' fun e w2 => ∃ v', e = .returned v' ∧ Own w2 w'.heap.size v' l ∧ Below w'.heap.size w' w2 from fun w' hb' => clone_any v l w' (HI.out.below (hbwa.trans (hb'.mono hbwa.size))))
        have hS0 := HALL.out _ (Below.refl _ _)
        go_region_held3 (fun w' => Below wa.heap.size wa w' ∧ w'.cell? ⟨g, 2, none⟩ = some (.int .u64 first) ∧ w'.cell? ⟨g, 3, none⟩ = some (.slice (some ⟨b, off, none⟩) vs.length c) ∧ w'.cell? ⟨b, off + j, none⟩ = some v) (first | assumption | (exact HALL.out _ (Below.drew (And.left (by assumption)))) | (exact HALL.out _ (by assumption))) (first
          | (go_at_call 36; refine (HCW.out _ (And.left (by assumption))).mono ?_; rintro e wz ⟨v', rfl, hov, hbz⟩; have hz := (And.left (by assumption) : Below wa.heap.size wa _).trans (hbz.mono (And.left (by assumption) : Below wa.heap.size wa _).size)))
        all_goals
          have hov2 : Own wz w.heap.size v' l := own_base hov (by show w.heap.size ≤ wa.heap.size; omega)
          have HOV := Lib.hid hov2
          have HBZ := Lib.hid (hbwa.trans (hz.mono hbwa.size))
          clear hov hov2 hbz hz
          go_wp2_with fail
          go_ret2
          refine ⟨HBZ.out, fun hh => ?_, fun j' l' e hl' => ?_⟩
          · have h3 := HVV.out.2.2
            have h4 := HLE.out
            omega
          · have h3 := HVV.out.2.2
            obtain rfl : j' = j := by omega
            rw [HVV.out.2.1] at hl'
            cases hl'
            exact ⟨v', rfl, HOV.out⟩
end Go.Proofs.YtcpkpljeimbdiaaGreat.W
namespace Go.Proofs.YtcpkpljeimbdiaaGreat.W
open Go.RowKit
open Aid K
set_option linter.unusedSimpArgs false
set_option linter.unusedVariables false
def codeF (code e : Int) : Int := if code = 0 then e else code
def OnceEnd (O : Nat → Prop) (g p : Nat) (V : Int → Array Value) (code e : Int) (st' : DSt) (w : World) (x : Ending) (w' : World) : Prop :=
  x = .returned (.int .i64 (codeF code e)) ∧ Blk w' g 75 (V (codeF code e)) ∧ Keeps (fun k => O k ∨ k = g) w w' ∧ ∃ O', DiskIs O' w' p st' ∧ ∀ k, O' k → O k ∨ (w.heap.size ≤ k ∧ k < w'.heap.size)
theorem keeps_mono {O O' : Nat → Prop} {w w' : World} (h : Keeps O w w') (hO : ∀ k, O k → O' k) : Keeps O' w w' := ⟨h.os, h.tape, h.output, h.size, fun k hk hn => h.block k hk (fun ho => hn (hO k ho)), h.rows⟩
theorem blk_ne {w : World} {g o : Nat} {T T' : TypeId} {cs ds : Array Value} (h : Blk w g T cs) (h' : Blk w o T' ds) (hT : T ≠ T') : o ≠ g := by
  rintro rfl
  unfold Blk at h h'
  rw [h] at h'
  cases h'
  exact hT rfl
set_option maxRecDepth 100000 in
set_option maxHeartbeats 2000000 in
theorem wsync_open (O : Nat → Prop) (g o p : Nat) (st : DSt) (R : Int) (i : Nat) (nu ix fu : Int) (rv : Value) (first : Int) (l old : Value) (next : Int) (w : World) (h : Blk w g 75 (walV (.pointer (some ⟨o, 0, none⟩)) p first l old next 0))
    (ho : Blk w o 86 #[.int .u64 nu, .int .u64 ix, .int .i64 fu, rv]) (hD : DiskIs O w p st) (hO : ∀ k, O k → k < w.heap.size) (hg : ¬ O g) (hog : ¬ O o) (hF : FitS st R i) (hi : i ≤ 4398046511103) (hR : R ≤ 9223372036854775807)
    (h0 : 0 ≤ nu) (h1 : 4 * nu + 1 < 18446744073709551616) :
    Calls Tryz.prog 15 #[.pointer (some ⟨g, 0, none⟩)] w (OnceEnd O g p (walV (.pointer (some ⟨o, 0, none⟩)) p first l old next) 0 (doE st 1 (4 * nu + 1) 0 []) (doS st 1 (4 * nu + 1) 0 []) w) := by
  obtain ⟨c0, c1, c2, c3, c4, c5, c6⟩ := blk7 h
  have d0 : w.cell? ⟨o, 0, none⟩ = some (.int .u64 nu) := ho.cell 0
  have hgl := Blk.lt h
  have hol := Blk.lt ho
  have hgo : ¬ O g := hg
  have hoo : ¬ O o := hog
  have hne : o ≠ g := blk_ne h ho (by decide)
  have HAR := Lib.hid (show ∀ w', Calls Tryz.prog 39 #[.int .u64 nu] w' fun e w2 => e = .returned (.int .u64 (4 * nu + 1)) ∧ w2 = w' from fun w' => area_any nu w' h0 h1)
  have HSY := Lib.hid (show ∀ w', Below w.heap.size w w' → w'.heap.size = w.heap.size → Calls Tryz.prog 38 #[.pointer (some ⟨p, 0, none⟩), .int .u64 (4 * nu + 1)] w' (DoEnd O p (doE st 1 (4 * nu + 1) 0 []) (doS st 1 (4 * nu + 1) 0 []) w') from fun w' hb hs => sync_do O p st R i (4 * nu + 1) 0 [] w' (hD.below hb) (fun k hk => by have := hO k hk; omega) hF hi hR (wf_u64 (by omega) h1))
  obtain ⟨E, hE⟩ : ∃ E, doE st 1 (4 * nu + 1) 0 [] = E := ⟨_, rfl⟩
  obtain ⟨st', hst⟩ : ∃ st', doS st 1 (4 * nu + 1) 0 [] = st' := ⟨_, rfl⟩
  rw [hE, hst] at HSY
  rw [hE, hst]
  have HH := Lib.hid h
  clear hE hst hD hO hF hi hR h0 h1 h ho hg hog
  go_enter Tryz.func15, Tryz.ntmps15
  go_wp2_with fail
  have hS0 : w.cell? ⟨g, 0, none⟩ = some (.pointer (some ⟨o, 0, none⟩)) ∧ w.cell? ⟨g, 1, none⟩ = some (.pointer (some ⟨p, 0, none⟩)) ∧ w.cell? ⟨o, 0, none⟩ = some (.int .u64 nu) := ⟨c0, c1, d0⟩
  go_region_held3 (fun w' => w'.cell? ⟨g, 0, none⟩ = some (.pointer (some ⟨o, 0, none⟩)) ∧ w'.cell? ⟨g, 1, none⟩ = some (.pointer (some ⟨p, 0, none⟩)) ∧ w'.cell? ⟨o, 0, none⟩ = some (.int .u64 nu)) (first | assumption) (first
    | (go_at_call 39; refine (HAR.out _).mono ?_; rintro e wz ⟨rfl, rfl⟩)
    | (go_at_call 38
       refine (HSY.out _ (Below.refl _ _).drew rfl).mono ?_
       rintro e wz ⟨rfl, hK, O', hD', hO'⟩
       have hBz : Blk wz g 75 (walV (.pointer (some ⟨o, 0, none⟩)) p first l old next 0) := (hK.block g hgl hgo).trans HH.out
       have hSz : wz.cell? ⟨g, 0, none⟩ = some (.pointer (some ⟨o, 0, none⟩)) ∧ wz.cell? ⟨g, 1, none⟩ = some (.pointer (some ⟨p, 0, none⟩)) ∧ wz.cell? ⟨o, 0, none⟩ = some (.int .u64 nu) := ⟨hBz.cell 0, hBz.cell 1, (hK.cell (p := ⟨o, 0, none⟩) hol hoo).trans d0⟩
       have HSZ := Lib.hid (And.intro hK (And.intro hD' (And.intro hO' hBz))))
    | (go_at_call 37
       refine (did_any g _ p first l old next 0 E _ HSZ.out.2.2.2).mono ?_
       rintro e w9 ⟨rfl, hB9, hK9, hs9⟩
       have hS9 : w9.cell? ⟨g, 0, none⟩ = some (.pointer (some ⟨o, 0, none⟩)) ∧ w9.cell? ⟨g, 1, none⟩ = some (.pointer (some ⟨p, 0, none⟩)) ∧ w9.cell? ⟨o, 0, none⟩ = some (.int .u64 nu) := ⟨hB9.cell 0, hB9.cell 1, (hK9.cell (p := ⟨o, 0, none⟩) (Nat.lt_of_lt_of_le hol HSZ.out.1.size) hne).trans hSz.2.2⟩
       have HB9 := Lib.hid (And.intro hB9 (And.intro hK9 hs9))
       clear hB9 hK9 hs9))
  all_goals
    have HALL := Lib.hid (And.intro HSZ.out HB9.out)
    clear HSZ HB9 hK hD' hO' hBz hSz hS9
    go_wp2_with fail
    go_ret
    obtain ⟨⟨hK, hD', hO', hBz⟩, hB9, hK9, hs9⟩ := HALL.out
    have hcf : codeF 0 E = E := if_pos rfl
    have hB10 : Blk w9 g 75 (walV (.pointer (some ⟨o, 0, none⟩)) p first l old next (codeF 0 E)) := by
      rw [hcf]
      simpa using hB9
    have hKw : Keeps (fun k => O k ∨ k = g) w wz := ⟨hK.os, hK.tape, hK.output, hK.size, fun k hk hn => hK.block k hk (fun ho => hn (.inl ho)), hK.rows⟩
    refine ⟨by rw [hcf]; rfl, hB10, hKw.trans hK9 (fun x hx => .inl (.inr hx)), O', hD'.keep hK9 (fun k hk e => ?_), fun k hk => ?_⟩
    · rcases hO' k hk with h1 | h1
      · exact hgo (e ▸ h1)
      · have h2 : w.heap.size ≤ k := h1.1
        omega
    · rcases hO' k hk with h1 | h1
      · exact .inl h1
      · have h2 : w.heap.size ≤ k := h1.1
        exact .inr ⟨h2, by omega⟩
theorem wsync_still (g p : Nat) (ov : Value) (first : Int) (l old : Value) (next code : Int) (w : World) (h : Blk w g 75 (walV ov p first l old next code)) (hc : code ≠ 0 ∨ ov = .pointer none) (ho : ∃ a, ov = .pointer a) :
    Calls Tryz.prog 15 #[.pointer (some ⟨g, 0, none⟩)] w fun e w' => e = .returned (.int .i64 code) ∧ Below w.heap.size w w' := by
  obtain ⟨c0, c1, c2, c3, c4, c5, c6⟩ := blk7 h
  obtain ⟨a, rfl⟩ := ho
  by_cases hz : code = 0
  · subst hz
    obtain hn : Value.pointer a = .pointer none := hc.resolve_left (fun h => h rfl)
    cases hn
    go_enter Tryz.func15, Tryz.ntmps15
    go_wp2_with fail
    go_ret
    exact ⟨rfl, Below.refl _ _⟩
  · have hz1 : (code != 0) = true := by simpa using hz
    have hz2 : (code == 0) = false := by simpa using hz
    go_enter Tryz.func15, Tryz.ntmps15
    go_wp2_with fail
    go_ret
    exact ⟨rfl, Below.refl _ _⟩
end Go.Proofs.YtcpkpljeimbdiaaGreat.W
namespace Go.Proofs.YtcpkpljeimbdiaaGreat.W
open Go.RowKit
open Aid K
set_option linter.unusedSimpArgs false
set_option linter.unusedVariables false
def segC : List (Int × Int) → List Value
  | [] => []
  | s :: S => .int .u64 s.1 :: .int .u64 s.2 :: segC S
theorem segC_at : ∀ (S : List (Int × Int)) (j : Nat) (s : Int × Int), S[j]? = some s → (segC S)[j * 2]? = some (.int .u64 s.1) ∧ (segC S)[j * 2 + 1]? = some (.int .u64 s.2)
  | [], j, s, h => by simp at h
  | t :: S, 0, s, h => by simp at h; subst h; exact ⟨rfl, rfl⟩
  | t :: S, j + 1, s, h => by
    have := segC_at S j s (by simpa using h)
    rw [show (j + 1) * 2 = j * 2 + 1 + 1 by omega]
    simpa [segC] using this
def Segs (w : World) (v : Value) (S : List (Int × Int)) : Prop := OffRow w 80 2 v S.length (segC S)
theorem Segs.at_ {w : World} {a : Option Addr} {n c : Nat} {S : List (Int × Int)} (h : Segs w (.slice a n c) S) {j : Nat} {s : Int × Int} (hs : S[j]? = some s) :
    ∃ b off, a = some ⟨b, off, none⟩ ∧ b < w.heap.size ∧ w.cell? ⟨b, off + j * 2, none⟩ = some (.int .u64 s.1) ∧ w.cell? ⟨b, off + j * 2 + 1, none⟩ = some (.int .u64 s.2) := by
  obtain ⟨h1, ⟨h2, h3⟩ | ⟨b, off, cap, cur, h2, hb, h3, h4, h5, h6⟩⟩ := h
  · rw [List.length_eq_zero_iff] at h3; subst h3; simp at hs
  · cases h2
    obtain ⟨e0, e1⟩ := segC_at S j s hs
    exact ⟨b, off, rfl, Blk.lt hb, (hb.cell _).trans (h6 _ _ e0), by rw [Nat.add_assoc]; exact (hb.cell _).trans (h6 _ _ e1)⟩
theorem Segs.keep {O : Nat → Prop} {w w' : World} {v : Value} {S : List (Int × Int)} (h : Segs w v S) (hK : Keeps O w w') (hO : ∀ k, v.ownBlock = some k → ¬ O k) : Segs w' v S := OffRow.keep h hK hO
theorem Segs.nil (w : World) : Segs w (.slice none 0 0) [] := OffRow.nil _ _ _
theorem segC_drop : ∀ (S : List (Int × Int)) (k : Nat), segC (S.drop k) = (segC S).drop (k * 2)
  | [], k => by simp [segC]
  | s :: S, 0 => by simp
  | s :: S, k + 1 => by
    rw [List.drop_succ_cons, segC_drop S k, show (k + 1) * 2 = k * 2 + 1 + 1 by omega]
    simp [segC]
theorem Segs.drop {w : World} {a : Option Addr} {n c k : Nat} {S : List (Int × Int)} (h : Segs w (.slice a n c) S) (hn : n = S.length) (hk : k ≤ n) : Segs w (.slice (a.map fun x => x.add (k * 2)) (n - k) (c - k)) (S.drop k) := by
  subst hn
  have h1 := OffRow.drop h hk
  unfold Segs
  rw [List.length_drop, segC_drop]
  exact h1
theorem segC_append (S T : List (Int × Int)) : segC (S ++ T) = segC S ++ segC T := by
  induction S with
  | nil => rfl
  | cons s S ih => simp [segC, ih]
set_option maxRecDepth 100000 in
set_option maxHeartbeats 2000000 in
theorem freed_any (g : Nat) (o : Value) (d : Nat) (first : Int) (l old : Value) (next code : Int) (S : List (Int × Int)) (i : Int) (w : World) (h : Blk w g 75 (walV o d first l old next code)) (hS : Segs w old S) (h1 : 1 ≤ S.length) (hl : S.length ≤ 4611686018427387904) :
    Calls Tryz.prog 59 #[.pointer (some ⟨g, 0, none⟩), .int .u64 i] w fun e w' => e = .returned (.bool (S.tail.any fun s => decide (s.2 ≤ i))) ∧ Below w.heap.size w w' := by
  obtain ⟨N, hN⟩ : ∃ N, S.length = N + 1 := ⟨S.length - 1, by omega⟩
  obtain ⟨T, hT⟩ : ∃ T, S.tail = T := ⟨_, rfl⟩
  rw [hT]
  have hTl : T.length = N := by rw [← hT, List.length_tail]; omega
  have hTj : ∀ j, T[j]? = S[j + 1]? := fun j => by rw [← hT, List.getElem?_tail]
  obtain ⟨a, c, rfl, hnc, hz⟩ := OffRow.slice hS
  obtain ⟨s0, hs0⟩ : ∃ s0, S[0]? = some s0 := ⟨_, List.getElem?_eq_getElem (by omega)⟩
  obtain ⟨b, off, rfl, hbl, _, _⟩ := Segs.at_ hS hs0
  have hcs : ∀ j s, T[j]? = some s → w.cell? ⟨b, off + 2 + j * 2, none⟩ = some (.int .u64 s.1) ∧ w.cell? ⟨b, off + 2 + j * 2 + 1, none⟩ = some (.int .u64 s.2) := fun j s hj => by
    rw [hTj] at hj
    obtain ⟨b', o', e, _, e1, e2⟩ := Segs.at_ hS hj
    cases e
    rw [show off + 2 + j * 2 = off + (j + 1) * 2 by omega]
    exact ⟨e1, e2⟩
  obtain ⟨c0, c1, c2, c3, c4, c5, c6⟩ := blk7 h
  have HCS := Lib.hid hcs
  have HTL := Lib.hid hTl
  rw [hN] at c4 hnc hl
  have hNs : N + 1 - 1 = N := rfl
  clear hS hz hcs hTl hTj hT hs0 h1 h hN
  by_cases hc1 : c = 1
  · have hN0 : N = 0 := by omega
    have hTn : T = [] := List.eq_nil_of_length_eq_zero (by rw [HTL.out]; exact hN0)
    subst hTn hN0 hc1
    go_enter Tryz.func59, Tryz.ntmps59
    go_wp2_with fail
    go_loopw [13] (fun x13 wr => x13 = .int .i64 0 ∧ wr = w) (fun _ _ => 0)
    case atStart => exact ⟨rfl, rfl⟩
    case round =>
      obtain ⟨rfl, rfl⟩ := hrel
      go_wp2_with fail
      go_ret
      exact ⟨rfl, Below.refl _ _⟩
  · go_enter Tryz.func59, Tryz.ntmps59
    go_wp2_with fail
    go_loopw [13] (fun x13 wr => ∃ k : Nat, x13 = .int .i64 k ∧ k ≤ N ∧ Hid (∀ j s, j < k → T[j]? = some s → ¬ (s.2 ≤ i)) ∧ Below w.heap.size w wr) (fun x13 _ => (N - intOf x13).toNat)
    case atStart => exact ⟨0, rfl, by omega, Lib.hid (fun j s hj => by omega), Below.refl _ _⟩
    case round =>
      obtain ⟨k, rfl, hk, hno, hb⟩ := hrel
      have hbs := hb.size
      by_cases hlt : (k : Int) < (N : Int)
      · obtain ⟨s, hs⟩ : ∃ s, T[k]? = some s := ⟨_, List.getElem?_eq_getElem (by rw [HTL.out]; omega)⟩
        obtain ⟨e1, e2⟩ := HCS.out k s hs
        have x1 := (hb.cell (p := ⟨b, off + 2 + k * 2, none⟩) hbl).trans e1
        have x2 := (hb.cell (p := ⟨b, off + 2 + k * 2 + 1, none⟩) hbl).trans e2
        obtain ⟨u, v⟩ := s
        dsimp only at x1 x2
        have HS2 := Lib.hid hs
        clear e1 e2 hs
        by_cases hle : v ≤ i
        · go_wp2_with fail
          go_ret
          have ha : (T.any fun s => decide (s.2 ≤ i)) = true := List.any_eq_true.2 ⟨(u, v), List.mem_of_getElem? HS2.out, decide_eq_true hle⟩
          exact ⟨by rw [ha]; rfl, hb.alloc hbs _⟩
        · have hno2 : ∀ j s, j < k + 1 → T[j]? = some s → ¬ (s.2 ≤ i) := fun j s hj hjs => by
            by_cases hjk : j = k
            · subst hjk
              rw [HS2.out] at hjs
              cases hjs
              exact hle
            · exact hno.out j s (by omega) hjs
          have HNO := Lib.hid hno2
          clear hno hno2
          go_wp2_with fail
          refine ⟨⟨k + 1, ?_, by omega, HNO, hb.alloc hbs _⟩, by simp [intOf]; omega⟩
          go_num
      · go_wp2_with fail
        go_ret
        have ha : (T.any fun s => decide (s.2 ≤ i)) = false := by
          rw [List.any_eq_false]
          intro s hs
          obtain ⟨j, hj⟩ := List.getElem?_of_mem hs
          have hjl := (List.getElem?_eq_some_iff.1 hj).1
          rw [HTL.out] at hjl
          have := hno.out j s (by omega) hj
          simpa using this
        exact ⟨by rw [ha]; rfl, hb⟩
end Go.Proofs.YtcpkpljeimbdiaaGreat.W
namespace Go.Proofs.YtcpkpljeimbdiaaGreat.W
open Go.RowKit
open Aid K
set_option linter.unusedSimpArgs false
set_option linter.unusedVariables false
structure Opn where
  nu : Int
  ix : Int
  fu : Nat
  rest : List Int
structure LSt where
  opn : Option Opn
  first : Int
  L : List (List Int)
  old : List (Int × Int)
  next : Int
  code : Int
def openV (nu ix : Int) (fu : Nat) (rv : Value) : Array Value := #[.int .u64 nu, .int .u64 ix, .int .i64 fu, rv]
def OpnIs (Q : Nat → Prop) (w : World) (ov : Value) : Option Opn → Prop
  | none => ov = .pointer none
  | some q => ∃ o rv, ov = .pointer (some ⟨o, 0, none⟩) ∧ Blk w o 86 (openV q.nu q.ix q.fu rv) ∧ Q o ∧ OffRow w 5 1 rv q.rest.length (q.rest.map (.int .u8)) ∧ ∀ k, rv.ownBlock = some k → Q k
structure WalIn (O Q : Nat → Prop) (w : World) (g p : Nat) (s : LSt) (ov lv oldv : Value) : Prop where
  blk : Blk w g 75 (walV ov p s.first lv oldv s.next s.code)
  qg : Q g
  opn : OpnIs Q w ov s.opn
  recs : ∃ vs, Recs (fun k => O k ∨ Q k) w lv s.L vs
  ql : ∀ k, lv.ownBlock = some k → Q k
  segs : Segs w oldv s.old
  qs : ∀ k, oldv.ownBlock = some k → Q k
  lt : ∀ k, Q k → k < w.heap.size
  apart : ∀ k, Q k → ¬ O k
def WalIs (O Q : Nat → Prop) (w : World) (g p : Nat) (s : LSt) : Prop := ∃ ov lv oldv, WalIn O Q w g p s ov lv oldv
structure LogAt (O Q : Nat → Prop) (w : World) (g p : Nat) (s : LSt) (st : DSt) (O' Q' : Nat → Prop) (w' : World) : Prop where
  wal : WalIs O' Q' w' g p s
  disk : DiskIs O' w' p st
  olt : ∀ k, O' k → k < w'.heap.size
  grow : ∀ k, O' k ∨ Q' k → (O k ∨ Q k) ∨ w.heap.size ≤ k
  keep : Keeps (fun k => O k ∨ Q k) w w'
def LogEnd (O Q : Nat → Prop) (g p : Nat) (r : Int) (s' : LSt) (st' : DSt) (w : World) (e : Ending) (w' : World) : Prop :=
  e = .returned (.int .i64 r) ∧ ∃ O' Q', LogAt O Q w g p s' st' O' Q' w'
theorem blk_keep {O : Nat → Prop} {w w' : World} {s : Nat} {t : TypeId} {cs : Array Value} (h : Blk w s t cs) (hK : Keeps O w w') (hs : ¬ O s) : Blk w' s t cs := by
  have hl := Blk.lt h
  unfold Blk at h ⊢; rw [hK.block s hl hs]; exact h
theorem offrow_ne {w : World} {g : Nat} {T T' : TypeId} {size n : Nat} {cs : Array Value} {v : Value} {xs : List Value} (h : Blk w g T cs) (h' : OffRow w T' size v n xs) (hT : T ≠ T') : ∀ k, v.ownBlock = some k → k ≠ g := by
  intro k hk
  obtain ⟨_, ⟨rfl, _⟩ | ⟨b, off, cap, cur, rfl, hb, _⟩⟩ := h'
  · cases hk
  · cases hk; exact blk_ne h hb hT
theorem offrow_ne2 {w : World} {T T' : TypeId} {size n size' n' : Nat} {v v' : Value} {xs xs' : List Value} (h : OffRow w T size v n xs) (h' : OffRow w T' size' v' n' xs') (hT : T ≠ T') : ∀ k, v.ownBlock = some k → ∀ k', v'.ownBlock = some k' → k' ≠ k := by
  intro k hk
  obtain ⟨_, ⟨rfl, _⟩ | ⟨b, off, cap, cur, rfl, hb, _⟩⟩ := h
  · cases hk
  · cases hk; exact offrow_ne hb h' hT
theorem ints_kept2 {k : IntKind} {P : Nat → Prop} {w w' : World} {v : Value} {l : List Int} (h : Ints w k v l) (hK : Keeps P w w') (hP : ∀ b, v.ownBlock = some b → ¬ P b) : Ints w' k v l := by
  refine ⟨h.1, ?_⟩
  rcases h.2 with h1 | ⟨b, off, cap, hv, hlt, hc⟩
  · exact .inl h1
  · subst hv
    exact .inr ⟨b, off, cap, rfl, by have := hK.size; omega, fun j hj => (hK.cell (p := ⟨b, off + j, none⟩) hlt (hP b rfl)).trans (hc j hj)⟩
theorem Recs.keep {Q Q' P : Nat → Prop} {w w' : World} {lv : Value} {L : List (List Int)} {vs : List Value} (h : Recs Q w lv L vs) (hK : Keeps P w w') (hl : ∀ k, lv.ownBlock = some k → ¬ P k) (hP : ∀ k, P k → Q k) (hQ : ∀ k, Q' k → Q k ∨ w.heap.size ≤ k) : Recs Q' w' lv L vs := by
  refine ⟨h.len, h.row.keep hK hl, fun j v l hv hL => ?_⟩
  obtain ⟨h1, h2⟩ := h.ints j v l hv hL
  refine ⟨ints_kept2 h1 hK (fun b hb hp => (h2 b hb).1 (hP b hp)), fun k hk => ⟨fun hq => ?_, by have := (h2 k hk).2; have := hK.size; omega⟩⟩
  rcases hQ k hq with h3 | h3
  · exact (h2 k hk).1 h3
  · have := (h2 k hk).2; omega
theorem OpnIs.keep {Q P : Nat → Prop} {w w' : World} {ov : Value} {q : Option Opn} (h : OpnIs Q w ov q) (hK : Keeps P w w') (hP : ∀ k, Q k → ¬ P k) : OpnIs Q w' ov q := by
  cases q with
  | none => exact h
  | some q =>
    obtain ⟨o, rv, h1, h2, h3, h4, h5⟩ := h
    exact ⟨o, rv, h1, blk_keep h2 hK (hP o h3), h3, h4.keep hK (fun k hk => hP k (h5 k hk)), h5⟩
theorem WalIn.disk {O O' Q P : Nat → Prop} {w w' : World} {g p : Nat} {s : LSt} {ov lv oldv : Value} (h : WalIn O Q w g p s ov lv oldv) (hK : Keeps P w w') (hP : ∀ k, P k → O k) (hO : ∀ k, O' k → O k ∨ w.heap.size ≤ k) : WalIn O' Q w' g p s ov lv oldv where
  blk := blk_keep h.blk hK (fun hp => h.apart g h.qg (hP _ hp))
  qg := h.qg
  opn := h.opn.keep hK (fun k hk hp => h.apart k hk (hP _ hp))
  recs := by
    obtain ⟨vs, hr⟩ := h.recs
    refine ⟨vs, hr.keep hK (fun k hk hp => h.apart k (h.ql k hk) (hP _ hp)) (fun k hk => .inl (hP k hk)) (fun k hk => ?_)⟩
    rcases hk with hk | hk
    · rcases hO k hk with h1 | h1
      · exact .inl (.inl h1)
      · exact .inr h1
    · exact .inl (.inr hk)
  ql := h.ql
  segs := h.segs.keep hK (fun k hk hp => h.apart k (h.qs k hk) (hP _ hp))
  qs := h.qs
  lt := fun k hk => by have := h.lt k hk; have := hK.size; omega
  apart := fun k hk ho => by
    rcases hO k ho with h1 | h1
    · exact h.apart k hk h1
    · have := h.lt k hk; omega
theorem WalIn.below {O Q : Nat → Prop} {w w' : World} {g p : Nat} {s : LSt} {ov lv oldv : Value} (h : WalIn O Q w g p s ov lv oldv) (hb : Below w.heap.size w w') : WalIn O Q w' g p s ov lv oldv :=
  h.disk (P := fun _ => False) (Keeps.of_below hb) (fun _ hk => hk.elim) (fun _ hk => .inl hk)
theorem WalIn.turn {O Q : Nat → Prop} {w w' : World} {g p : Nat} {s s' : LSt} {ov lv oldv : Value} (h : WalIn O Q w g p s ov lv oldv) (hK : Keeps (fun k => k = g) w w') (hs : w'.heap.size = w.heap.size) (hb : Blk w' g 75 (walV ov p s'.first lv oldv s'.next s'.code)) (h1 : s'.opn = s.opn) (h2 : s'.L = s.L) (h3 : s'.old = s.old) : WalIn O Q w' g p s' ov lv oldv where
  blk := hb
  qg := h.qg
  opn := by
    rw [h1]
    have ho := h.opn
    cases hq : s.opn with
    | none => rw [hq] at ho; exact ho
    | some q =>
      rw [hq] at ho
      obtain ⟨o, rv, e1, e2, e3, e4, e5⟩ := ho
      exact ⟨o, rv, e1, blk_keep e2 hK (blk_ne h.blk e2 (by decide)), e3, e4.keep hK (fun k hk e => offrow_ne h.blk e4 (by decide) k hk e), e5⟩
  recs := by
    obtain ⟨vs, hr⟩ := h.recs
    rw [h2]
    exact ⟨vs, hr.keep hK (fun k hk e => offrow_ne h.blk hr.row (by decide) k hk e) (fun k hk => .inr (hk ▸ h.qg)) (fun k hk => .inl hk)⟩
  ql := h.ql
  segs := by rw [h3]; exact h.segs.keep hK (fun k hk e => offrow_ne h.blk h.segs (by decide) k hk e)
  qs := h.qs
  lt := fun k hk => by have := h.lt k hk; omega
  apart := h.apart
theorem LogAt.refl {O Q : Nat → Prop} {w : World} {g p : Nat} {s : LSt} {st : DSt} (h : WalIs O Q w g p s) (hD : DiskIs O w p st) (hO : ∀ k, O k → k < w.heap.size) : LogAt O Q w g p s st O Q w := ⟨h, hD, hO, fun _ hk => .inl hk, Keeps.refl _ _⟩
theorem LogAt.trans {O Q O' Q' O2 Q2 : Nat → Prop} {w w' w2 : World} {g p : Nat} {s s2 : LSt} {st st2 : DSt} (h : LogAt O Q w g p s st O' Q' w') (h2 : LogAt O' Q' w' g p s2 st2 O2 Q2 w2) : LogAt O Q w g p s2 st2 O2 Q2 w2 :=
  ⟨h2.wal, h2.disk, h2.olt, fun k hk => by
    rcases h2.grow k hk with h3 | h3
    · exact h.grow k h3
    · have := h.keep.size; exact .inr (by omega), h.keep.trans h2.keep (fun k hk => h.grow k hk)⟩
theorem LogAt.below {O Q O' Q' : Nat → Prop} {w w' w2 : World} {g p : Nat} {s : LSt} {st : DSt} (h : LogAt O Q w g p s st O' Q' w') (hb : Below w'.heap.size w' w2) : LogAt O Q w g p s st O' Q' w2 := by
  have hs := hb.size
  refine ⟨?_, h.disk.below hb, fun k hk => by have := h.olt k hk; omega, h.grow, h.keep.trans (O' := fun _ => False) (Keeps.of_below hb) (fun _ hk => hk.elim)⟩
  obtain ⟨ov, lv, oldv, hw⟩ := h.wal
  exact ⟨ov, lv, oldv, hw.below hb⟩
theorem WalIn.calls {O O' Q P : Nat → Prop} {w w' : World} {g p : Nat} {s s' : LSt} {ov lv oldv : Value} (h : WalIn O Q w g p s ov lv oldv) (hK : Keeps P w w') (hP : ∀ k, P k → O k ∨ k = g) (hO : ∀ k, O' k → O k ∨ w.heap.size ≤ k)
    (hb : Blk w' g 75 (walV ov p s'.first lv oldv s'.next s'.code)) (h1 : s'.opn = s.opn) (h2 : s'.L = s.L) (h3 : s'.old = s.old) : WalIn O' Q w' g p s' ov lv oldv where
  blk := hb
  qg := h.qg
  opn := by
    rw [h1]
    have ho := h.opn
    cases hq : s.opn with
    | none => rw [hq] at ho; exact ho
    | some q =>
      rw [hq] at ho
      obtain ⟨o, rv, e1, e2, e3, e4, e5⟩ := ho
      refine ⟨o, rv, e1, blk_keep e2 hK (fun hp => ?_), e3, e4.keep hK (fun k hk hp => ?_), e5⟩
      · rcases hP o hp with h4 | h4
        · exact h.apart o e3 h4
        · exact blk_ne h.blk e2 (by decide) h4
      · rcases hP k hp with h4 | h4
        · exact h.apart k (e5 k hk) h4
        · exact offrow_ne h.blk e4 (by decide) k hk h4
  recs := by
    obtain ⟨vs, hr⟩ := h.recs
    rw [h2]
    refine ⟨vs, hr.keep hK (fun k hk hp => ?_) (fun k hk => ?_) (fun k hk => ?_)⟩
    · rcases hP k hp with h4 | h4
      · exact h.apart k (h.ql k hk) h4
      · exact offrow_ne h.blk hr.row (by decide) k hk h4
    · rcases hP k hk with h4 | h4
      · exact .inl h4
      · exact .inr (h4 ▸ h.qg)
    · rcases hk with hk | hk
      · rcases hO k hk with h4 | h4
        · exact .inl (.inl h4)
        · exact .inr h4
      · exact .inl (.inr hk)
  ql := h.ql
  segs := by
    rw [h3]
    refine h.segs.keep hK (fun k hk hp => ?_)
    rcases hP k hp with h4 | h4
    · exact h.apart k (h.qs k hk) h4
    · exact offrow_ne h.blk h.segs (by decide) k hk h4
  qs := h.qs
  lt := fun k hk => by have := h.lt k hk; have := hK.size; omega
  apart := fun k hk ho => by
    rcases hO k ho with h4 | h4
    · exact h.apart k hk h4
    · have := h.lt k hk; omega
noncomputable def syS (s : LSt) (st : DSt) : LSt × DSt :=
  if s.code ≠ 0 then (s, st) else match s.opn with
  | none => (s, st)
  | some q => ({ s with code := doE st 1 (4 * q.nu + 1) 0 [] }, doS st 1 (4 * q.nu + 1) 0 [])
theorem sync_log (O Q : Nat → Prop) (g p : Nat) (s : LSt) (st : DSt) (R : Int) (i : Nat) (w : World) (hW : WalIs O Q w g p s) (hD : DiskIs O w p st) (hO : ∀ k, O k → k < w.heap.size) (hF : FitS st R i) (hi : i ≤ 4398046511103) (hR : R ≤ 9223372036854775807)
    (hn : ∀ q, s.opn = some q → 0 ≤ q.nu ∧ q.nu < 2305843009213693952) :
    Calls Tryz.prog 15 #[.pointer (some ⟨g, 0, none⟩)] w (LogEnd O Q g p (syS s st).1.code (syS s st).1 (syS s st).2 w) := by
  have hW0 := hW
  obtain ⟨ov, lv, oldv, hW⟩ := hW
  by_cases hc : s.code ≠ 0
  · have e : syS s st = (s, st) := by unfold syS; rw [if_pos hc]
    rw [e]
    have hov : ∃ a, ov = .pointer a := by
      have := hW.opn
      cases hq : s.opn with
      | none => rw [hq] at this; exact ⟨_, this⟩
      | some q => rw [hq] at this; obtain ⟨o, rv, e1, _⟩ := this; exact ⟨_, e1⟩
    refine (wsync_still g p ov s.first lv oldv s.next s.code w hW.blk (.inl hc) hov).mono ?_
    rintro e w' ⟨rfl, hb⟩
    exact ⟨rfl, O, Q, (LogAt.refl hW0 hD hO).below hb⟩
  · have hc0 : s.code = 0 := Decidable.not_not.1 hc
    cases hq : s.opn with
    | none =>
      have e : syS s st = (s, st) := by unfold syS; rw [if_neg hc, hq]
      rw [e]
      have ho := hW.opn
      rw [hq] at ho
      refine (wsync_still g p ov s.first lv oldv s.next s.code w hW.blk (.inr ho) ⟨_, ho⟩).mono ?_
      rintro e w' ⟨rfl, hb⟩
      exact ⟨rfl, O, Q, (LogAt.refl hW0 hD hO).below hb⟩
    | some q =>
      have e : syS s st = ({ s with code := doE st 1 (4 * q.nu + 1) 0 [] }, doS st 1 (4 * q.nu + 1) 0 []) := by unfold syS; rw [if_neg hc, hq]
      rw [e]
      have ho := hW.opn
      rw [hq] at ho
      obtain ⟨o, rv, rfl, e2, e3, e4, e5⟩ := ho
      have hb0 := hW.blk
      rw [hc0] at hb0
      refine (wsync_open O g o p st R i q.nu q.ix q.fu rv s.first lv oldv s.next w hb0 e2 hD hO (hW.apart g hW.qg) (hW.apart o e3) hF hi hR (hn q hq).1 (by have := (hn q hq).2; omega)).mono ?_
      rintro x w' ⟨rfl, hB, hK, O', hD', hO'⟩
      have hcf : codeF 0 (doE st 1 (4 * q.nu + 1) 0 []) = doE st 1 (4 * q.nu + 1) 0 [] := if_pos rfl
      rw [hcf] at hB ⊢
      refine ⟨rfl, O', Q, ⟨⟨_, lv, oldv, hW.calls hK (fun k hk => hk) (fun k hk => ?_) hB rfl rfl rfl⟩, hD', fun k hk => ?_, fun k hk => ?_, ?_⟩⟩
      · rcases hO' k hk with h1 | h1
        · exact .inl h1
        · exact .inr h1.1
      · rcases hO' k hk with h1 | h1
        · have := hO k h1; have := hK.size; omega
        · exact h1.2
      · rcases hk with hk | hk
        · rcases hO' k hk with h1 | h1
          · exact .inl (.inl h1)
          · exact .inr h1.1
        · exact .inl (.inr hk)
      · refine keeps_mono hK (fun k hk => ?_)
        rcases hk with hk | hk
        · exact .inl hk
        · exact .inr (hk ▸ hW.qg)
end Go.Proofs.YtcpkpljeimbdiaaGreat.W
namespace Go.Proofs.YtcpkpljeimbdiaaGreat.W
open Go.RowKit
open Aid K
set_option linter.unusedSimpArgs false
set_option linter.unusedVariables false
theorem run_append_off {P : Program} (w : World) (t : TypeId) (T : TypeId) (i : TypeInfo) (z : Value) (size bytes : Nat) (h1 : P.underlying t = some (.slice T)) (h2 : P.info? T = some i) (h3 : i.zero = some z) (h4 : i.size = size) (h5 : i.bytes = bytes) (h6 : z.cells.size = size) (h7 : 0 < size) (hT : T ≠ 9)
    (v : Value) (n : Nat) (xs : List Value) (hR : OffRow w T size v n xs)
    (ad : Addr) (m c : Nat) (news : List Value) (hn : news.length = m * size) (hc : ∀ j u, news[j]? = some u → w.cell? (ad.add j) = some u) (h1c : ∀ u ∈ news, u.oneCell' = true)
    (b1 : n + m ≤ maxLen) (b2 : (n + m) * bytes ≤ 140737488355328) :
    ∃ v' w', (∀ ty, (Builtin.append_ #[t, t] ty #[v, .slice (some ad) m c]).run P w = .ok v' w') ∧ OffRow w' T size v' (n + m) (xs ++ news) ∧ Keeps (fun k => v.ownBlock = some k) w w' ∧ (∀ k, v'.ownBlock = some k → v.ownBlock = some k ∨ w.heap.size ≤ k) := by
  have hown : ∀ v' (w' : World), w'.ownsRow w.heap.size T size v' (n + m) (xs ++ news) → w.grownBy w' none → OffRow w' T size v' (n + m) (xs ++ news) ∧ Keeps (fun k => v.ownBlock = some k) w w' ∧ (∀ k, v'.ownBlock = some k → v.ownBlock = some k ∨ w.heap.size ≤ k) := fun v' w' ho hb =>
    ⟨OffRow.of_own ho, Keeps.of_below (below_of_grown hb (Nat.le_refl _) (fun _ e => (nomatch e))), fun k hk => .inr (by
      rcases ho.2 with ⟨e, _⟩ | ⟨g, cap, cur, e, hb2, _⟩
      · rw [e] at hk; cases hk
      · rw [e] at hk; cases hk; exact hb2)⟩
  obtain ⟨hl, ⟨rfl, rfl⟩ | ⟨b, off, cap, cur, rfl, hb, e1, e2, e3, e4⟩⟩ := hR
  · obtain rfl : xs = [] := List.eq_nil_of_length_eq_zero (by omega)
    obtain ⟨v', w', hrun, r1, r2, _⟩ := run_append_own (P := P) w w.heap.size t t T i z size bytes h1 h2 h3 h4 h5 h6 h7 (.slice none 0 0) 0 [] (World.ownsRow_nil w _ T size) ad m c news hn hc h1c b1 b2 (Nat.le_refl _)
    exact ⟨v', w', fun _ => hrun, hown v' w' r1 r2⟩
  · by_cases hr : n + m ≤ cap
    · have e5 := Nat.mul_le_mul_right size hr
      rw [Nat.add_mul] at e5
      have hrun := run_append_room_cells (P := P) w t t T i h1 h2 b off n cap ad m c news (by rw [h4]; exact hn) hc h1c hr
        (fun j hj => by rw [h4, hb.cell, Array.getElem?_eq_getElem (by omega)]; rfl) (fun j hj => hb.free _)
      rw [h4] at hrun
      refine ⟨_, _, fun _ => hrun, ⟨by rw [List.length_append, hl, hn, Nat.add_mul], .inr ⟨b, off, cap, _, rfl, Blk.setCells news _ hb, hr, e2, by rw [setL_size]; exact e3, fun j u hj => ?_⟩⟩, ?_, fun k hk => .inl hk⟩
      · rw [setL_get _ _ _ (by omega)]
        by_cases hj2 : j < xs.length
        · rw [if_neg (by omega)]
          rw [List.getElem?_append_left hj2] at hj
          exact e4 j u hj
        · rw [List.getElem?_append_right (by omega)] at hj
          have := (List.getElem?_eq_some_iff.1 hj).1
          rw [if_pos (by omega), show off + j - (off + n * size) = j - xs.length by omega]
          exact hj
      · have hk := setCells_keeps b news (off + n * size) hb hT (Keeps.refl (fun x => x = b) w)
        exact ⟨hk.os, hk.tape, hk.output, hk.size, fun k hk1 hk2 => hk.block k hk1 (fun e => hk2 (by rw [e]; rfl)), hk.rows⟩
    · obtain ⟨v', w', hrun, r1, r2⟩ := run_append_arg_grows (P := P) w t t T i z size bytes h1 h2 h3 h4 h5 h6 h7 ⟨b, off, none⟩ n cap xs hl (fun j u hj => by rw [Addr.add_lit]; exact (hb.cell _).trans (e4 j u hj)) ad m c news hn hc (by omega) b1 b2
      exact ⟨v', w', fun _ => hrun, hown v' w' r1 r2⟩
theorem step_append_off {P : Program} {ops : Array Oper} {o : Oper} {a : Act} {w : World} {K : Act → World → Prop} {Q : Exit → Act → World → Prop} {E : Prop}
    (hg : o.guard = none) (s x : Operand) (t : TypeId) (hop : o.op = Op.call { callee := Callee.builtin Builtin.append, args := #[s, x], argTypes := #[t, t] })
    (v v' : Value) (w' : World) (ad : Addr) (m c : Nat) (hs : a.eval s = v) (hx : a.eval x = .slice (some ad) m c)
    (hrun : ∀ ty, (Builtin.append_ #[t, t] ty #[v, .slice (some ad) m c]).run P w = .ok v' w')
    (hK : K (a.put o.dst v') w') :
    if Region.wanted o (yielded ops a.tmps) = true then Oper.wp P o a w K Q else E := by
  have hw : Region.wanted o (yielded ops a.tmps) = true := by simp [Region.wanted, hg]
  rw [if_pos hw]
  have hrun := hrun o.type
  unfold Oper.wp
  simp [execOp, hop, resolve, invoke, builtin, hs, hx, hrun, Result.andThen]
  exact hK
theorem wp_cut2 {α β : Type} {P : Program} {c : Code} {Q : Exit → Act → World → Prop} {a : Act} {w : World} (A : α → β → Act) (F : α → β → World → Prop)
    (h1 : c.wp P (NoPanic fun e a w' => e = .normal ∧ ∃ x y, a = A x y ∧ F x y w') a w) (h2 : ∀ x y w', F x y w' → Q .normal (A x y) w') : c.wp P Q a w :=
  Code.wp_mono (fun e a w h => by
    cases e with
    | panic c => exact (h : False).elim
    | _ =>
      obtain ⟨h0, x, y, rfl, h3⟩ := (h : _ ∧ ∃ x y, _ ∧ _)
      cases h0 <;> exact h2 x y w h3) h1
theorem wp_cut0 {P : Program} {c : Code} {Q : Exit → Act → World → Prop} {a : Act} {w : World} (A : Act) (W : World)
    (h1 : c.wp P (NoPanic fun e a w' => e = .normal ∧ a = A ∧ w' = W) a w) (h2 : Q .normal A W) : c.wp P Q a w :=
  Code.wp_mono (fun e a w h => by
    cases e with
    | panic c => exact (h : False).elim
    | _ =>
      obtain ⟨h0, rfl, rfl⟩ := (h : _ ∧ _ ∧ _)
      cases h0 <;> exact h2) h1
end Go.Proofs.YtcpkpljeimbdiaaGreat.W
namespace Go.Proofs.YtcpkpljeimbdiaaGreat.W
open Go.RowKit
open Aid K
set_option linter.unusedSimpArgs false
set_option linter.unusedVariables false
def secW (rest : List Int) : List Int := ((min rest.length 63 : Nat) : Int) :: rest.take 63
noncomputable def wrF (a : Int) : Nat → DSt → Nat → List Int → DSt × Nat × List Int × Int
  | 0, st, full, rest => (st, full, rest, 0)
  | f + 1, st, full, rest =>
    if doE st 0 a full (secW rest) ≠ 0 ∨ rest.length < 63 then (doS st 0 a full (secW rest), full, rest, doE st 0 a full (secW rest))
    else if rest.drop 63 = [] then (doS st 0 a full (secW rest), full + 1, [], 0) else wrF a f (doS st 0 a full (secW rest)) (full + 1) (rest.drop 63)
theorem secW_len (rest : List Int) : (secW rest).length ≤ 64 := by
  unfold secW; rw [List.length_cons, List.length_take]; omega
theorem secW_by {rest : List Int} (h : By8 rest) : By8 (secW rest) := by
  intro x hx
  unfold secW at hx
  rcases List.mem_cons.1 hx with rfl | hx
  · omega
  · exact h x (List.mem_of_mem_take hx)
noncomputable def wrS (s : LSt) (st : DSt) (b : List Int) : LSt × DSt :=
  match s.opn with
  | none => (s, st)
  | some q =>
    let r := wrF (4 * q.nu + 1) (q.rest.length + b.length) st q.fu (q.rest ++ b)
    ({ s with opn := some { q with fu := r.2.1, rest := r.2.2.1 }, code := r.2.2.2 }, r.1)
theorem WalIn.opn_turn {O Q P : Nat → Prop} {w w' : World} {g p o : Nat} {s : LSt} {q q' : Opn} {rv rv' lv oldv : Value} (h : WalIn O Q w g p s (.pointer (some ⟨o, 0, none⟩)) lv oldv) (hO : ∀ k, O k → k < w.heap.size)
    (hb0 : Blk w o 86 (openV q.nu q.ix q.fu rv)) (hqo : Q o) (hr0 : OffRow w 5 1 rv q.rest.length (q.rest.map (.int .u8))) (hrq : ∀ k, rv.ownBlock = some k → Q k)
    (hK : Keeps P w w') (hP : ∀ k, P k → rv.ownBlock = some k ∨ k = o)
    (hb : Blk w' o 86 (openV q'.nu q'.ix q'.fu rv')) (hr : OffRow w' 5 1 rv' q'.rest.length (q'.rest.map (.int .u8))) (hn : ∀ k, rv'.ownBlock = some k → Q k ∨ w.heap.size ≤ k) :
    WalIn O (fun k => Q k ∨ rv'.ownBlock = some k) w' g p { s with opn := some q' } (.pointer (some ⟨o, 0, none⟩)) lv oldv := by
  have hPQ : ∀ k, P k → Q k := fun k hk => by
    rcases hP k hk with h1 | rfl
    · exact hrq k h1
    · exact hqo
  have hsz := hK.size
  refine ⟨?_, .inl h.qg, ⟨o, rv', rfl, hb, .inl hqo, hr, fun k hk => .inr hk⟩, ?_, fun k hk => .inl (h.ql k hk), ?_, fun k hk => .inl (h.qs k hk), fun k hk => ?_, fun k hk ho => ?_⟩
  · refine blk_keep h.blk hK (fun hp => ?_)
    rcases hP g hp with h1 | h1
    · exact offrow_ne h.blk hr0 (by decide) g h1 rfl
    · exact blk_ne h.blk hb0 (by decide) h1.symm
  · obtain ⟨vs, hv⟩ := h.recs
    refine ⟨vs, hv.keep hK (fun k hk hp => ?_) (fun k hk => .inr (hPQ k hk)) (fun k hk => ?_)⟩
    · rcases hP k hp with h1 | h1
      · exact offrow_ne2 hr0 hv.row (by decide) k h1 k hk rfl
      · exact offrow_ne hb0 hv.row (by decide) k hk h1
    · rcases hk with hk | hk | hk
      · exact .inl (.inl hk)
      · exact .inl (.inr hk)
      · rcases hn k hk with h1 | h1
        · exact .inl (.inr h1)
        · exact .inr h1
  · refine h.segs.keep hK (fun k hk hp => ?_)
    rcases hP k hp with h1 | h1
    · exact offrow_ne2 hr0 h.segs (by decide) k h1 k hk rfl
    · exact offrow_ne hb0 h.segs (by decide) k hk h1
  · rcases hk with hk | hk
    · have := h.lt k hk; omega
    · exact hr.lt k hk
  · rcases hk with hk | hk
    · exact h.apart k hk ho
    · rcases hn k hk with h1 | h1
      · exact h.apart k h1 ho
      · have := hO k ho; omega
structure WrAt (O Q : Nat → Prop) (g p o : Nat) (s : LSt) (q : Opn) (lv oldv : Value) (w : World) (st : DSt) (fu : Nat) (r : List Int) (O' Q' : Nat → Prop) (rv : Value) (wr : World) : Prop where
  wal : WalIn O' Q' wr g p { s with opn := some { q with fu := fu, rest := r } } (.pointer (some ⟨o, 0, none⟩)) lv oldv
  blk : Blk wr o 86 (openV q.nu q.ix fu rv)
  qo : Q' o
  row : OffRow wr 5 1 rv r.length (r.map (.int .u8))
  qr : ∀ k, rv.ownBlock = some k → Q' k
  disk : DiskIs O' wr p st
  olt : ∀ k, O' k → k < wr.heap.size
  grow : ∀ k, O' k ∨ Q' k → (O k ∨ Q k) ∨ w.heap.size ≤ k
  keep : Keeps (fun k => O k ∨ Q k) w wr
theorem WrAt.start {O Q : Nat → Prop} {g p o : Nat} {s : LSt} {q : Opn} {lv oldv rv v1 : Value} {w w1 : World} {st : DSt} {b : List Int} (hW : WalIn O Q w g p s (.pointer (some ⟨o, 0, none⟩)) lv oldv) (hO : ∀ k, O k → k < w.heap.size) (hD : DiskIs O w p st)
    (hB : Blk w o 86 (openV q.nu q.ix q.fu rv)) (hqo : Q o) (hrow : OffRow w 5 1 rv q.rest.length (q.rest.map (.int .u8))) (hqr : ∀ k, rv.ownBlock = some k → Q k)
    (hoff : OffRow w1 5 1 v1 (q.rest ++ b).length ((q.rest ++ b).map (.int .u8))) (hK1 : Keeps (fun k => rv.ownBlock = some k) w w1) (hown : ∀ k, v1.ownBlock = some k → rv.ownBlock = some k ∨ w.heap.size ≤ k) :
    WrAt O Q g p o s q lv oldv w st q.fu (q.rest ++ b) O (fun k => Q k ∨ v1.ownBlock = some k) v1 (w1.setCell ⟨o, 3, none⟩ v1) := by
  have hB1 := blk_keep hB hK1 (fun hk => offrow_ne hB hrow (by decide) o hk rfl)
  have hB2 : Blk (w1.setCell ⟨o, 3, none⟩ v1) o 86 (openV q.nu q.ix q.fu v1) := hB1.set 3 v1
  have hK2 : Keeps (fun k => k = o) w1 (w1.setCell ⟨o, 3, none⟩ v1) := set_keeps (Keeps.refl _ _) rfl (StrRow.no_blk hB1 (by decide))
  have hK : Keeps (fun k => rv.ownBlock = some k ∨ k = o) w (w1.setCell ⟨o, 3, none⟩ v1) := (keeps_mono hK1 (fun k hk => .inl hk)).trans hK2 (fun k hk => .inl (.inr hk))
  have hoff2 := hoff.keep hK2 (fun k hk e => offrow_ne hB1 hoff (by decide) k hk e)
  have hPQ : ∀ k, (rv.ownBlock = some k ∨ k = o) → Q k := fun k hk => by
    rcases hk with hk | hk
    · exact hqr k hk
    · exact hk ▸ hqo
  have hwal := hW.opn_turn (q' := { q with fu := q.fu, rest := q.rest ++ b }) hO hB hqo hrow hqr hK (fun k hk => hk) hB2 hoff2 (fun k hk => by
    rcases hown k hk with h | h
    · exact .inl (hqr k h)
    · exact .inr h)
  refine ⟨hwal, hB2, .inl hqo, hoff2, fun k hk => .inr hk, hD.keep hK (fun k hk hp => hW.apart k (hPQ k hp) hk), fun k hk => by have := hO k hk; have := hK.size; omega, fun k hk => ?_, keeps_mono hK (fun k hk => .inr (hPQ k hk))⟩
  rcases hk with hk | hk | hk
  · exact .inl (.inl hk)
  · exact .inl (.inr hk)
  · rcases hown k hk with h | h
    · exact .inl (.inr (hqr k h))
    · exact .inr h
theorem WrAt.below {O Q O' Q' : Nat → Prop} {g p o : Nat} {s : LSt} {q : Opn} {lv oldv rv : Value} {w wr w2 : World} {st : DSt} {fu : Nat} {r : List Int} (h : WrAt O Q g p o s q lv oldv w st fu r O' Q' rv wr) (hb : Below wr.heap.size wr w2) : WrAt O Q g p o s q lv oldv w st fu r O' Q' rv w2 :=
  ⟨h.wal.below hb, blk_keep (O := fun _ => False) h.blk (Keeps.of_below hb) (fun h => h), h.qo, h.row.keep (O := fun _ => False) (Keeps.of_below hb) (fun _ _ h => h), h.qr, h.disk.below hb, fun k hk => by have := h.olt k hk; have := hb.size; omega, h.grow, h.keep.trans (O' := fun _ => False) (Keeps.of_below hb) (fun _ hk => hk.elim)⟩
theorem WrAt.call {O Q O' Q' O2 : Nat → Prop} {g p o : Nat} {s : LSt} {q : Opn} {lv oldv rv : Value} {w wr w2 w3 : World} {st st2 : DSt} {fu : Nat} {r : List Int} {E : Int} (h : WrAt O Q g p o s q lv oldv w st fu r O' Q' rv wr)
    (hK : Keeps O' wr w2) (hD : DiskIs O2 w2 p st2) (hO2 : ∀ k, O2 k → O' k ∨ (wr.heap.size ≤ k ∧ k < w2.heap.size)) (hB : Blk w3 g 75 (walV (.pointer (some ⟨o, 0, none⟩)) p s.first lv oldv s.next E)) (hK3 : Keeps (fun k => k = g) w2 w3) (hs3 : w3.heap.size = w2.heap.size) :
    WrAt O Q g p o { s with code := E } q lv oldv w st2 fu r O2 Q' rv w3 := by
  have hKK : Keeps (fun k => O' k ∨ k = g) wr w3 := (keeps_mono hK (fun k hk => .inl hk)).trans hK3 (fun k hk => .inl (.inr hk))
  have hsz := hK.size
  have hgQ : Q' g := h.wal.qg
  have hng : ∀ k, (O' k ∨ k = g) → k = o → False := fun k hk e => by
    subst e
    rcases hk with hk | hk
    · exact h.wal.apart k h.qo hk
    · exact blk_ne h.wal.blk h.blk (by decide) hk
  have hnr : ∀ k, rv.ownBlock = some k → ¬ (O' k ∨ k = g) := fun k hk hp => by
    rcases hp with hp | hp
    · exact h.wal.apart k (h.qr k hk) hp
    · exact offrow_ne h.wal.blk h.row (by decide) k hk hp
  refine ⟨h.wal.calls hKK (fun k hk => hk) (fun k hk => ?_) hB rfl rfl rfl, blk_keep h.blk hKK (fun hp => hng o hp rfl), h.qo, h.row.keep hKK hnr, h.qr, hD.keep hK3 (fun k hk e => ?_), fun k hk => ?_, fun k hk => ?_, h.keep.trans hKK (fun k hk => ?_)⟩
  · rcases hO2 k hk with h1 | h1
    · exact .inl h1
    · exact .inr h1.1
  · subst e
    rcases hO2 k hk with h1 | h1
    · exact h.wal.apart k hgQ h1
    · have := h.wal.lt k hgQ; omega
  · rcases hO2 k hk with h1 | h1
    · have := h.olt k h1; omega
    · omega
  · rcases hk with hk | hk
    · rcases hO2 k hk with h1 | h1
      · exact h.grow k (.inl h1)
      · have := h.keep.size; exact .inr (by omega)
    · exact h.grow k (.inr hk)
  · rcases hk with hk | hk
    · exact h.grow k (.inl hk)
    · exact h.grow k (.inr (hk ▸ hgQ))
theorem WrAt.turn {O Q O' Q' : Nat → Prop} {g p o : Nat} {s : LSt} {q : Opn} {lv oldv rv v' x : Value} {w wr : World} {st : DSt} {fu fu' k : Nat} {r r' : List Int} (h : WrAt O Q g p o s q lv oldv w st fu r O' Q' rv wr)
    (hB : Blk (wr.setCell ⟨o, k, none⟩ x) o 86 (openV q.nu q.ix fu' v')) (hd : OffRow wr 5 1 v' r'.length (r'.map (.int .u8))) (hown : ∀ x, v'.ownBlock = some x → Q' x) :
    WrAt O Q g p o s q lv oldv w st fu' r' O' Q' v' (wr.setCell ⟨o, k, none⟩ x) := by
  have hK : Keeps (fun k => k = o) wr (wr.setCell ⟨o, k, none⟩ x) := set_keeps (Keeps.refl _ _) rfl (StrRow.no_blk h.blk (by decide))
  have hd2 := hd.keep hK (fun x hx e => offrow_ne h.blk hd (by decide) x hx e)
  have hwal := h.wal.opn_turn (q := { q with fu := fu, rest := r }) (q' := { q with fu := fu', rest := r' }) h.olt h.blk h.qo h.row h.qr hK (fun x hx => .inr hx) hB hd2 (fun x hx => .inl (hown x hx))
  have hQ : (fun x => Q' x ∨ v'.ownBlock = some x) = Q' := by
    funext x
    exact propext ⟨fun hx => by rcases hx with hx | hx; exact hx; exact hown x hx, fun hx => .inl hx⟩
  rw [hQ] at hwal
  exact ⟨hwal, hB, h.qo, hd2, hown, h.disk.keep hK (fun k hk e => h.wal.apart k (e ▸ h.qo) hk), fun k hk => by have := h.olt k hk; have := hK.size; omega, h.grow, h.keep.trans hK (fun k hk => h.grow k (.inr (hk ▸ h.qo)))⟩
theorem WrAt.inc {O Q O' Q' : Nat → Prop} {g p o : Nat} {s : LSt} {q : Opn} {lv oldv rv : Value} {w wr : World} {st : DSt} {fu : Nat} {r : List Int} (h : WrAt O Q g p o s q lv oldv w st fu r O' Q' rv wr) :
    WrAt O Q g p o s q lv oldv w st (fu + 1) r O' Q' rv (wr.setCell ⟨o, 2, none⟩ (.int .i64 ((fu + 1 : Nat) : Int))) := h.turn (h.blk.set 2 _) h.row h.qr
theorem WrAt.drop {O Q O' Q' : Nat → Prop} {g p o : Nat} {s : LSt} {q : Opn} {lv oldv : Value} {w wr : World} {st : DSt} {fu n c k b off : Nat} {r : List Int} (h : WrAt O Q g p o s q lv oldv w st fu r O' Q' (.slice (some ⟨b, off, none⟩) n c) wr) (hn : n = r.length) (hk : k ≤ n) :
    WrAt O Q g p o s q lv oldv w st fu (r.drop k) O' Q' (.slice (some ⟨b, off + k, none⟩) (n - k) (c - k)) (wr.setCell ⟨o, 3, none⟩ (.slice (some ⟨b, off + k, none⟩) (n - k) (c - k))) := by
  subst hn
  refine h.turn (h.blk.set 3 _) ?_ (fun x hx => h.qr x hx)
  have hd := OffRow.drop h.row hk
  rw [Nat.mul_one, ← List.map_drop] at hd
  rw [List.length_drop]
  simpa [add_any] using hd
theorem WrAt.none {O Q O' Q' : Nat → Prop} {g p o : Nat} {s : LSt} {q : Opn} {lv oldv : Value} {w wr : World} {st : DSt} {fu n c b off : Nat} {r : List Int} (h : WrAt O Q g p o s q lv oldv w st fu r O' Q' (.slice (some ⟨b, off, none⟩) n c) wr) :
    WrAt O Q g p o s q lv oldv w st fu [] O' Q' (.slice (some ⟨b, off, none⟩) 0 0) (wr.setCell ⟨o, 3, none⟩ (.slice (some ⟨b, off, none⟩) 0 0)) := by
  refine h.turn (h.blk.set 3 _) ?_ (fun x hx => h.qr x hx)
  obtain ⟨h1, ⟨h2, _⟩ | ⟨b', off', cap, cur, h2, hb, h3, h4, h5, h6⟩⟩ := h.row
  · cases h2
  · cases h2
    exact ⟨rfl, .inr ⟨b, off, 0, cur, rfl, hb, Nat.le_refl _, Nat.zero_le _, by omega, fun j u hj => by cases hj⟩⟩
theorem WrAt.log {O Q O' Q' : Nat → Prop} {g p o : Nat} {s : LSt} {q : Opn} {lv oldv rv : Value} {w wr : World} {st : DSt} {fu : Nat} {r : List Int} (h : WrAt O Q g p o s q lv oldv w st fu r O' Q' rv wr) : LogAt O Q w g p { s with opn := some { q with fu := fu, rest := r } } st O' Q' wr :=
  ⟨⟨_, _, _, h.wal⟩, h.disk, h.olt, h.grow, h.keep⟩
theorem offrow_ints {w : World} {v : Value} {l : List Int} (h : OffRow w 5 1 v l.length (l.map (.int .u8))) (hl : l.length ≤ 140737488355328) : Ints w .u8 v l := by
  obtain ⟨_, ⟨rfl, h0⟩ | ⟨b, off, cap, cur, rfl, hb, h1, h2, h3, h4⟩⟩ := h
  · rw [List.eq_nil_of_length_eq_zero h0]; exact Ints.nil _ _
  · refine ⟨by omega, .inr ⟨b, off, cap, rfl, Blk.lt hb, fun j hj => ?_⟩⟩
    refine (hb.cell _).trans (h4 j _ ?_)
    rw [List.getElem?_map, List.getElem?_eq_getElem hj, List.getD_eq_getElem?_getD, List.getElem?_eq_getElem hj]
    rfl
theorem openV_at {w : World} {o : Nat} {nu ix : Int} {fu : Nat} {rv : Value} (h : Blk w o 86 (openV nu ix fu rv)) :
    w.cell? ⟨o, 0, none⟩ = some (.int .u64 nu) ∧ w.cell? ⟨o, 1, none⟩ = some (.int .u64 ix) ∧ w.cell? ⟨o, 2, none⟩ = some (.int .i64 fu) ∧ w.cell? ⟨o, 3, none⟩ = some rv ∧ w.frozen? ⟨o, 2, none⟩ = false ∧ w.frozen? ⟨o, 3, none⟩ = false :=
  ⟨h.cell 0, h.cell 1, h.cell 2, h.cell 3, h.free 2, h.free 3⟩
def msrO (o : Nat) (wr : World) : Nat := match wr.cell? ⟨o, 3, none⟩ with | some (.slice _ n _) => n | _ => 0
end Go.Proofs.YtcpkpljeimbdiaaGreat.W
namespace Go.Proofs.YtcpkpljeimbdiaaGreat.W
open Go.RowKit
open Aid K
set_option linter.unusedSimpArgs false
set_option linter.unusedVariables false
def WrInv (O Q : Nat → Prop) (g p o : Nat) (s : LSt) (q : Opn) (lv oldv : Value) (w : World) (R : Int) (i : Nat) (T : DSt × Nat × List Int × Int) (wr : World) : Prop :=
  ∃ f st fu r O' Q' rv j, WrAt O Q g p o s q lv oldv w st fu r O' Q' rv wr ∧ T = wrF (4 * q.nu + 1) f st fu r ∧ FitS st R j ∧ j + f ≤ i + 1000 ∧ fu + f ≤ 2000 ∧ r ≠ [] ∧ r.length ≤ f ∧ By8 r
set_option maxRecDepth 100000 in
set_option maxHeartbeats 2000000 in
theorem write_any (O Q : Nat → Prop) (g p : Nat) (s : LSt) (q : Opn) (st : DSt) (R : Int) (i : Nat) (bv : Value) (b : List Int) (w : World) (hW : WalIs O Q w g p s) (hq : s.opn = some q) (hc : s.code = 0) (hD : DiskIs O w p st) (hO : ∀ k, O k → k < w.heap.size)
    (hF : FitS st R i) (hi : i + 1000 ≤ 4398046511103) (hR : R ≤ 9223372036854775807) (hI : Ints w .u8 bv b) (hb : By8 b) (hr : By8 q.rest) (hb1 : b ≠ []) (hbl : b.length ≤ 600) (hrl : q.rest.length ≤ 100) (hfu : q.fu ≤ 1000) (hn0 : 0 ≤ q.nu) (hn1 : q.nu < 2305843009213693952) :
    Calls Tryz.prog 34 #[.pointer (some ⟨g, 0, none⟩), bv] w (LogEnd O Q g p (wrS s st b).1.code (wrS s st b).1 (wrS s st b).2 w) := by
  obtain ⟨T, hT⟩ : ∃ T, wrF (4 * q.nu + 1) (q.rest.length + b.length) st q.fu (q.rest ++ b) = T := ⟨_, rfl⟩
  have hgoal : wrS s st b = ({ s with opn := some { q with fu := T.2.1, rest := T.2.2.1 }, code := T.2.2.2 }, T.1) := by unfold wrS; rw [hq]; simp only; rw [hT]
  rw [hgoal]
  obtain ⟨ov, lv, oldv, hW⟩ := hW
  have ho := hW.opn
  rw [hq] at ho
  obtain ⟨o, rv, rfl, hB, hqo, hrow, hqr⟩ := ho
  obtain ⟨c0, c1, c2, c3, c4, c5, c6⟩ := blk7 hW.blk
  obtain ⟨d0, d1, d2, d3, f2, f3⟩ := openV_at hB
  obtain ⟨ra, rc, rfl, _, _⟩ := hrow.slice
  have hne : o ≠ g := blk_ne hW.blk hB (by decide)
  have hgl := Blk.lt hW.blk
  have hol := Blk.lt hB
  obtain ⟨iu, hiu, hzu, hsu, hbu⟩ := parts_u8
  obtain ⟨ba, bo, bc, rfl, hbc⟩ : ∃ ba bo bc, bv = .slice (some ⟨ba, bo, none⟩) b.length bc ∧ ∀ j, j < b.length → w.cell? ⟨ba, bo + j, none⟩ = some (.int .u8 (b.getD j 0)) := by
    rcases hI.2 with ⟨h1, _⟩ | ⟨ba, bo, bc, h1, _, h2⟩
    · exact absurd h1 hb1
    · exact ⟨ba, bo, bc, h1, h2⟩
  have HAPP := Lib.hid (show ∀ wx, Below w.heap.size w wx → wx.heap.size = w.heap.size → ∃ v' w', (∀ ty, (Builtin.append_ #[49, 49] ty #[.slice ra q.rest.length rc, .slice (some ⟨ba, bo, none⟩) b.length bc]).run Tryz.prog wx = .ok v' w') ∧
      OffRow w' 5 1 v' (q.rest ++ b).length ((q.rest ++ b).map (.int .u8)) ∧ Keeps (fun k => (Value.slice ra q.rest.length rc).ownBlock = some k) w w' ∧ (∀ k, v'.ownBlock = some k → (Value.slice ra q.rest.length rc).ownBlock = some k ∨ w.heap.size ≤ k) ∧ w'.cell? ⟨g, 0, none⟩ = some (.pointer (some ⟨o, 0, none⟩)) ∧ w'.cell? ⟨o, 3, none⟩ = some (.slice ra q.rest.length rc) ∧ w'.frozen? ⟨o, 3, none⟩ = false from fun wx hbx hsx => by
    have hrx := hrow.keep (O := fun _ => False) (Keeps.of_below hbx) (fun _ _ h => h)
    obtain ⟨v', w', h1, h2, h3, h4⟩ := run_append_off (P := Tryz.prog) wx 49 5 iu (.int .u8 0) 1 1 Tryz.underlying49 hiu hzu hsu hbu rfl (by decide) (by decide) _ _ _ hrx ⟨ba, bo, none⟩ b.length bc (b.map (.int .u8)) (by simp) (fun j u hj => by
      rw [add_any]
      rw [List.getElem?_map] at hj
      cases hbj : b[j]? with
      | none => rw [hbj] at hj; cases hj
      | some x =>
        rw [hbj] at hj; cases hj
        have hjl := (List.getElem?_eq_some_iff.1 hbj).1
        have hcell := hbc j hjl
        rw [List.getD_eq_getElem?_getD, hbj] at hcell
        have hbal : ba < w.heap.size := World.block_lt_of_cell? w _ hcell
        exact (hbx.cell (p := ⟨ba, bo + j, none⟩) hbal).trans hcell) (fun u hu => by obtain ⟨x, _, rfl⟩ := List.mem_map.1 hu; rfl) (by unfold maxLen; omega) (by omega)
    have hK : Keeps (fun k => (Value.slice ra q.rest.length rc).ownBlock = some k) w w' := (Keeps.of_below hbx).trans h3 (fun x hx => .inl hx)
    have hB' := blk_keep hB hK (fun hk => offrow_ne hB hrow (by decide) o hk rfl)
    refine ⟨v', w', h1, ?_, hK, fun k hk => ?_, ?_, hB'.cell 3, hB'.free 3⟩
    · rw [List.length_append, List.map_append]; exact h2
    · rcases h4 k hk with h | h
      · exact .inl h
      · exact .inr (by omega)
    · exact (hK.cell (p := ⟨g, 0, none⟩) hgl (fun hk => offrow_ne hW.blk hrow (by decide) g hk rfl)).trans c0)
  have hW0 := Lib.hid hW
  have hB0 := Lib.hid hB
  have hR0 := Lib.hid hrow
  have hQR := Lib.hid hqr
  clear hW hB hrow hqr hI hbc
  go_enter Tryz.func34, Tryz.ntmps34
  go_wp2_with fail
  refine' wp_cut2 (α := Option Addr) (β := Nat) _ (fun a1 k1 w' => ∃ w1, w' = w1.setCell ⟨o, 3, none⟩ (.slice a1 (q.rest.length + b.length) k1) ∧ Hid (OffRow w1 5 1 (.slice a1 (q.rest ++ b).length k1) (q.rest ++ b).length ((q.rest ++ b).map (.int .u8)) ∧ Keeps (fun k => (Value.slice ra q.rest.length rc).ownBlock = some k) w w1 ∧ (∀ k, (Value.slice a1 (q.rest ++ b).length k1).ownBlock = some k → (Value.slice ra q.rest.length rc).ownBlock = some k ∨ w.heap.size ≤ k))) ?reg ?imp
  case reg =>
    go_region_law
      (obtain ⟨v1, w1, hrun1, hoff1, hK1, hown1, hg1, ho1, hf1⟩ := HAPP.out _ (Below.refl _ _).drew rfl
       obtain ⟨a1, k1, rfl, hk1, hz1⟩ := hoff1.slice
       refine step_append_off rfl (.tmp 17) (.tmp 18) 49 rfl _ _ w1 ⟨ba, bo, none⟩ b.length bc rfl rfl hrun1 ?_
       have HW1 := Lib.hid (And.intro hoff1 (And.intro hK1 hown1))
       clear hoff1 hK1 hown1 hrun1)
    all_goals
      refine ⟨rfl, a1, k1, ?_, w1, rfl, HW1⟩
      exact Eq.refl _
  case imp =>
    rintro a1 k1 w' ⟨w1, rfl, HW1⟩
    have hst : WrInv O Q g p o s q lv oldv w R i T (w1.setCell ⟨o, 3, none⟩ (.slice a1 (q.rest.length + b.length) k1)) := by
      obtain ⟨h1, h2, h3⟩ := HW1.out
      have hs := WrAt.start hW0.out hO hD hB0.out hqo hR0.out hQR.out h1 h2 h3
      rw [List.length_append] at hs
      refine ⟨_, st, q.fu, _, _, _, _, i, hs, hT.symm, hF, by omega, by omega, fun e => hb1 (List.append_eq_nil_iff.1 e).2, by rw [List.length_append]; exact Nat.le_refl _, fun x hx => ?_⟩
      rcases List.mem_append.1 hx with hx | hx
      · exact hr x hx
      · exact hb x hx
    have HST := Lib.hid hst
    have HC := Lib.hid hc
    clear hc
    clear HW1 hW0 hB0 hR0 hQR HAPP hT hF hb hr c0 c1 c2 c3 c4 c5 c6 d0 d1 d2 d3 f2 f3 hst hO hD hgoal hq hb1 hbl hrl hfu hqo hol hgl
    go_wp2_with fail
    go_loopw [] (fun wr => WrInv O Q g p o s q lv oldv w R i T wr) (fun wr => msrO o wr)
    case atStart => exact HST.out
    case round =>
      clear HST
      obtain ⟨f, stj, fuj, rj, Oj, Qj, rvj, ij, hAt, hTe, hFj, hj1, hj2, hjne, hjf, hjby⟩ := hrel
      have hlr : 1 ≤ rj.length := List.length_pos_iff.2 hjne
      obtain ⟨f, rfl⟩ : ∃ f', f = f' + 1 := ⟨f - 1, by omega⟩
      obtain ⟨ja, jc, rfl, hjc, hjz⟩ := hAt.row.slice
      have hIj := offrow_ints hAt.row (by omega)
      obtain ⟨jb, jo, rfl, hjb, _⟩ := hIj.at_ (k := 0) hlr rfl
      obtain ⟨c0, c1, c2, c3, c4, c5, c6⟩ := blk7 hAt.wal.blk
      obtain ⟨d0, d1, d2, d3, f2, f3⟩ := openV_at hAt.blk
      obtain ⟨N, hN⟩ : ∃ N, rj.length = N := ⟨_, rfl⟩
      have hgl : g < wr.heap.size := Blk.lt hAt.wal.blk
      have hol : o < wr.heap.size := Blk.lt hAt.blk
      have hbA : ∀ (x : Obj), Below wr.heap.size wr (wr.alloc x) := fun x => (Below.refl _ _).alloc (Nat.le_refl _) x
      have x0 : ∀ (x : Obj), (wr.alloc x).cell? ⟨g, 0, none⟩ = some (.pointer (some ⟨o, 0, none⟩)) := fun x => ((hbA x).cell (p := ⟨g, 0, none⟩) hgl).trans c0
      have x3 : ∀ (x : Obj), (wr.alloc x).cell? ⟨o, 3, none⟩ = some (.slice (some ⟨jb, jo, none⟩) N jc) := fun x => ((hbA x).cell (p := ⟨o, 3, none⟩) hol).trans (hN ▸ d3)
      obtain ⟨u, hu⟩ : ∃ u, min N 63 = u := ⟨_, rfl⟩
      have hmin : (if (63 : Int) < (N : Int) then (63 : Int) else (N : Int)) = (u : Int) := by split <;> omega
      have hu1 : u ≤ 63 := by omega
      have hu2 : u ≤ N := by omega
      have hu3 : 1 ≤ u := by omega
      have hI3 := ints_take hIj (k := u) (by omega)
      have HI3 := Lib.hid hI3
      have HAT := Lib.hid hAt
      have HTE := Lib.hid hTe
      have HFJ := Lib.hid hFj
      have HBY := Lib.hid hjby
      rw [hN] at hjc d3
      have HN := Lib.hid hN
      have HU := Lib.hid hu
      have hown1 : (wr.alloc (.cells #[.int .u8 (u : Int)] 5)).ownsRow wr.heap.size 5 1 (.slice (some ⟨wr.heap.size, 0, none⟩) 1 1) 1 [.int .u8 (u : Int)] := ⟨rfl, .inr ⟨wr.heap.size, 1, #[.int .u8 (u : Int)], rfl, Nat.le_refl _, Blk.alloc_new _ _ _, Nat.le_refl _, by unfold maxLen; omega, rfl, rfl⟩⟩
      have HO1 := Lib.hid hown1
      have HI4 := Lib.hid (HI3.out.below (hbA (.cells #[.int .u8 (u : Int)] 5)))
      have hul : (rj.take u).length = u := by rw [List.length_take]; omega
      have hua : wr.heap.size ≤ (wr.alloc (.cells #[.int .u8 (u : Int)] 5)).heap.size := by simp
      clear hown1 hI3 hAt hTe hFj hjby hIj hN hu hjne hjz
      go_wp2_with (at_builtin; refine wpList_append_ints _ (by rfl) _ _ 49 rfl wr.heap.size 5 iu (.int .u8 0) 1 Tryz.underlying49 hiu hzu hsu hbu rfl .u8 _ _ _ rfl HO1.out _ (rj.take u) rfl HI4.out (by rw [hul]; unfold maxLen; omega) (by omega) hua ?_; intro v4 w4 hown4 hb4)
      have hbW : Below wr.heap.size wr w4 := (hbA _).trans hb4
      have hA4 := HAT.out.below hbW
      have hB4 := hA4.wal.blk
      have hc0 : s.code = 0 := HC.out
      change Blk w4 g 75 (walV (.pointer (some ⟨o, 0, none⟩)) p s.first lv oldv s.next s.code) at hB4
      rw [hc0] at hB4
      obtain ⟨y0, y1, _, _, _, _, y6⟩ := blk7 hB4
      obtain ⟨y2, _, y3, y4, y5, y7⟩ := openV_at hA4.blk
      have hgl4 : g < w4.heap.size := Blk.lt hB4
      have hol4 : o < w4.heap.size := Blk.lt hA4.blk
      have hgo : ¬ Oj g := hA4.wal.apart g hA4.wal.qg
      have hoo : ¬ Oj o := hA4.wal.apart o hA4.qo
      have hsec : [Value.int .u8 (u : Int)] ++ (rj.take u).map (.int .u8) = (secW rj).map (.int .u8) := by
        have e1 : min rj.length 63 = u := by rw [HN.out]; exact HU.out
        have e2 : rj.take u = rj.take 63 := by
          by_cases h63 : rj.length ≤ 63
          · rw [List.take_of_length_le h63, List.take_of_length_le (by omega)]
          · rw [show u = 63 by omega]
        unfold secW
        rw [e1, e2]; rfl
      have hsl : 1 + (rj.take u).length = (secW rj).length := by
        have := congrArg List.length hsec
        simpa [Nat.add_comm] using this
      rw [hsec, hsl] at hown4
      have hI5 : Ints w4 .u8 v4 (secW rj) := Ints.own hown4 (by have := secW_len rj; omega)
      have hvb : ∀ bb oo n c, v4 = .slice (some ⟨bb, oo, none⟩) n c → n ≠ 0 → ¬ Oj bb := fun bb oo n c e _ ho => by
        have h1 := HAT.out.olt bb ho
        rcases hown4.2 with ⟨e2, _⟩ | ⟨g', cap, cur, e2, h2, _⟩
        · rw [e2] at e; cases e
        · rw [e2] at e
          simp only [Value.slice.injEq, Option.some.injEq, Addr.mk.injEq] at e
          omega
      have HAR := Lib.hid (show ∀ w', Calls Tryz.prog 39 #[.int .u64 q.nu] w' fun e w2 => e = .returned (.int .u64 (4 * q.nu + 1)) ∧ w2 = w' from fun w' => area_any q.nu w' hn0 (by omega))
      have HWC := Lib.hid (show ∀ w', Below w4.heap.size w4 w' → w'.heap.size = w4.heap.size → Calls Tryz.prog 57 #[.pointer (some ⟨p, 0, none⟩), .int .u64 (4 * q.nu + 1), .int .i64 fuj, v4] w' (DoEnd Oj p (doE stj 0 (4 * q.nu + 1) fuj (secW rj)) (doS stj 0 (4 * q.nu + 1) fuj (secW rj)) w') from fun w' hb hs =>
        write_do Oj p stj R ij (4 * q.nu + 1) fuj v4 (secW rj) w' (hA4.disk.below hb) (fun k hk => by have := hA4.olt k hk; omega) HFJ.out (by omega) hR (hI5.below hb) hvb (secW_by HBY.out) (wf_u64 (by omega) (by omega)) (wf_i64 (by omega) (by omega)))
      obtain ⟨E, hE⟩ : ∃ E, doE stj 0 (4 * q.nu + 1) fuj (secW rj) = E := ⟨_, rfl⟩
      obtain ⟨st', hst'⟩ : ∃ st', doS stj 0 (4 * q.nu + 1) fuj (secW rj) = st' := ⟨_, rfl⟩
      rw [hE, hst'] at HWC
      have HB4 := Lib.hid hB4
      have HA4 := Lib.hid hA4
      have HES := Lib.hid (And.intro hE hst')
      obtain ⟨va4, vc4, rfl⟩ := hI5.form
      have hcase : E ≠ 0 ∨ (E = 0 ∧ (u : Int) < 63) ∨ (E = 0 ∧ ¬ (u : Int) < 63) := by omega
      clear hown4 hb4 hbW hA4 hB4 hsec hsl hI5 hvb hE hst' HO1 HI4 HI3 hbA x0 x3 c0 c1 c2 c3 c4 c5 c6 d0 d1 d2 d3 f2 f3 hc0 hmin hul hua hgl hol
      have hS0 : w4.cell? ⟨g, 0, none⟩ = some (.pointer (some ⟨o, 0, none⟩)) ∧ w4.cell? ⟨g, 1, none⟩ = some (.pointer (some ⟨p, 0, none⟩)) ∧ w4.cell? ⟨o, 0, none⟩ = some (.int .u64 q.nu) ∧ w4.cell? ⟨o, 2, none⟩ = some (.int .i64 fuj) := ⟨y0, y1, y2, y3⟩
      rcases hcase with hE0 | ⟨hE0, h63⟩ | ⟨hE0, h63⟩
      · have hE1 : (E == 0) = false := by simpa using hE0
        have hE2 : (E != 0) = true := by simpa using hE0
        refine wp_region_noPanic ?_
        refine wp_region_held_drew (S := fun w' => w'.cell? ⟨g, 0, none⟩ = some (.pointer (some ⟨o, 0, none⟩)) ∧ w'.cell? ⟨g, 1, none⟩ = some (.pointer (some ⟨p, 0, none⟩)) ∧ w'.cell? ⟨o, 0, none⟩ = some (.int .u64 q.nu) ∧ w'.cell? ⟨o, 2, none⟩ = some (.int .i64 fuj)) (by kernel_rfl) hS0 (fun hHeld => ?_)
        refine wpAnyH_take (i := 0) (v := .pointer (some ⟨g, 0, none⟩)) rfl (by kernel_rfl) (by kernel_rfl) (by kernel_rfl) (fun _ _ _ h => h) (.inl ⟨by rfl, by intro w hSw; go_simp⟩) hHeld ?_
        simp only [Act.put, List.getElem_toArray, List.getElem_cons_succ, List.getElem_cons_zero, List.setIfInBounds_toArray, List.set_cons_zero, List.set_cons_succ]
        refine wpAnyH_take (i := 1) (v := .pointer (some ⟨g, 0, none⟩)) rfl (by kernel_rfl) (by kernel_rfl) (by kernel_rfl) (fun _ _ _ h => h) (.inl ⟨by rfl, by intro w hSw; go_simp⟩) hHeld ?_
        simp only [Act.put, List.getElem_toArray, List.getElem_cons_succ, List.getElem_cons_zero, List.setIfInBounds_toArray, List.set_cons_zero, List.set_cons_succ]
        refine wpAnyH_take (i := 2) (v := .pointer (some ⟨g, 0, none⟩)) rfl (by kernel_rfl) (by kernel_rfl) (by kernel_rfl) (fun _ _ _ h => h) (.inl ⟨by rfl, by intro w hSw; go_simp⟩) hHeld ?_
        simp only [Act.put, List.getElem_toArray, List.getElem_cons_succ, List.getElem_cons_zero, List.setIfInBounds_toArray, List.set_cons_zero, List.set_cons_succ]
        refine wpAnyH_take (i := 3) (v := .pointer (some ⟨g, 1, none⟩)) rfl (by kernel_rfl) (by kernel_rfl) (by kernel_rfl) (fun _ _ _ h => h) (.inl ⟨by rfl, by intro w hSw; go_simp⟩) hHeld ?_
        simp only [Act.put, List.getElem_toArray, List.getElem_cons_succ, List.getElem_cons_zero, List.setIfInBounds_toArray, List.set_cons_zero, List.set_cons_succ]
        refine wpAnyH_take (i := 4) (v := .pointer (some ⟨p, 0, none⟩)) rfl (by kernel_rfl) (by kernel_rfl) (by kernel_rfl) (fun _ _ _ h => h) (.inl ⟨by rfl, by intro w hSw; obtain ⟨hx0, hx1, hx2, hx3⟩ := hSw; go_simp⟩) hHeld ?_
        simp only [Act.put, List.getElem_toArray, List.getElem_cons_succ, List.getElem_cons_zero, List.setIfInBounds_toArray, List.set_cons_zero, List.set_cons_succ]
        refine wpAnyH_take (i := 5) (v := .pointer (some ⟨g, 0, none⟩)) rfl (by kernel_rfl) (by kernel_rfl) (by kernel_rfl) (fun _ _ _ h => h) (.inl ⟨by rfl, by intro w hSw; go_simp⟩) hHeld ?_
        simp only [Act.put, List.getElem_toArray, List.getElem_cons_succ, List.getElem_cons_zero, List.setIfInBounds_toArray, List.set_cons_zero, List.set_cons_succ]
        refine wpAnyH_take (i := 6) (v := .pointer (some ⟨g, 0, none⟩)) rfl (by kernel_rfl) (by kernel_rfl) (by kernel_rfl) (fun _ _ _ h => h) (.inl ⟨by rfl, by intro w hSw; go_simp⟩) hHeld ?_
        simp only [Act.put, List.getElem_toArray, List.getElem_cons_succ, List.getElem_cons_zero, List.setIfInBounds_toArray, List.set_cons_zero, List.set_cons_succ]
        refine wpAnyH_take (i := 7) (v := .pointer (some ⟨g, 0, none⟩)) rfl (by kernel_rfl) (by kernel_rfl) (by kernel_rfl) (fun _ _ _ h => h) (.inl ⟨by rfl, by intro w hSw; go_simp⟩) hHeld ?_
        simp only [Act.put, List.getElem_toArray, List.getElem_cons_succ, List.getElem_cons_zero, List.setIfInBounds_toArray, List.set_cons_zero, List.set_cons_succ]
        refine wpAnyH_take (i := 8) (v := .pointer (some ⟨o, 0, none⟩)) rfl (by kernel_rfl) (by kernel_rfl) (by kernel_rfl) (fun _ _ _ h => h) (.inl ⟨by rfl, by intro w hSw; obtain ⟨hx0, hx1, hx2, hx3⟩ := hSw; go_simp⟩) hHeld ?_
        simp only [Act.put, List.getElem_toArray, List.getElem_cons_succ, List.getElem_cons_zero, List.setIfInBounds_toArray, List.set_cons_zero, List.set_cons_succ]
        refine wpAnyH_take (i := 9) (v := .pointer (some ⟨o, 0, none⟩)) rfl (by kernel_rfl) (by kernel_rfl) (by kernel_rfl) (fun _ _ _ h => h) (.inl ⟨by rfl, by intro w hSw; go_simp⟩) hHeld ?_
        simp only [Act.put, List.getElem_toArray, List.getElem_cons_succ, List.getElem_cons_zero, List.setIfInBounds_toArray, List.set_cons_zero, List.set_cons_succ]
        refine wpAnyH_take (i := 10) (v := .pointer (some ⟨o, 0, none⟩)) rfl (by kernel_rfl) (by kernel_rfl) (by kernel_rfl) (fun _ _ _ h => h) (.inl ⟨by rfl, by intro w hSw; go_simp⟩) hHeld ?_
        simp only [Act.put, List.getElem_toArray, List.getElem_cons_succ, List.getElem_cons_zero, List.setIfInBounds_toArray, List.set_cons_zero, List.set_cons_succ]
        refine wpAnyH_take (i := 11) (v := .pointer (some ⟨o, 0, none⟩)) rfl (by kernel_rfl) (by kernel_rfl) (by kernel_rfl) (fun _ _ _ h => h) (.inl ⟨by rfl, by intro w hSw; go_simp⟩) hHeld ?_
        simp only [Act.put, List.getElem_toArray, List.getElem_cons_succ, List.getElem_cons_zero, List.setIfInBounds_toArray, List.set_cons_zero, List.set_cons_succ]
        refine wpAnyH_take (i := 12) (v := .int .u64 q.nu) rfl (by kernel_rfl) (by kernel_rfl) (by kernel_rfl) (fun _ _ _ h => h) (.inl ⟨by rfl, by intro w hSw; obtain ⟨hx0, hx1, hx2, hx3⟩ := hSw; go_simp⟩) hHeld ?_
        simp only [Act.put, List.getElem_toArray, List.getElem_cons_succ, List.getElem_cons_zero, List.setIfInBounds_toArray, List.set_cons_zero, List.set_cons_succ]
        refine wpAnyH_take (i := 14) (v := .pointer (some ⟨g, 0, none⟩)) rfl (by kernel_rfl) (by kernel_rfl) (by kernel_rfl) (fun _ _ _ h => h) (.inl ⟨by rfl, by intro w hSw; go_simp⟩) hHeld ?_
        simp only [Act.put, List.getElem_toArray, List.getElem_cons_succ, List.getElem_cons_zero, List.setIfInBounds_toArray, List.set_cons_zero, List.set_cons_succ]
        refine wpAnyH_take (i := 15) (v := .pointer (some ⟨g, 0, none⟩)) rfl (by kernel_rfl) (by kernel_rfl) (by kernel_rfl) (fun _ _ _ h => h) (.inl ⟨by rfl, by intro w hSw; go_simp⟩) hHeld ?_
        simp only [Act.put, List.getElem_toArray, List.getElem_cons_succ, List.getElem_cons_zero, List.setIfInBounds_toArray, List.set_cons_zero, List.set_cons_succ]
        refine wpAnyH_take (i := 16) (v := .pointer (some ⟨g, 0, none⟩)) rfl (by kernel_rfl) (by kernel_rfl) (by kernel_rfl) (fun _ _ _ h => h) (.inl ⟨by rfl, by intro w hSw; go_simp⟩) hHeld ?_
        simp only [Act.put, List.getElem_toArray, List.getElem_cons_succ, List.getElem_cons_zero, List.setIfInBounds_toArray, List.set_cons_zero, List.set_cons_succ]
        refine wpAnyH_take (i := 17) (v := .pointer (some ⟨o, 0, none⟩)) rfl (by kernel_rfl) (by kernel_rfl) (by kernel_rfl) (fun _ _ _ h => h) (.inl ⟨by rfl, by intro w hSw; obtain ⟨hx0, hx1, hx2, hx3⟩ := hSw; go_simp⟩) hHeld ?_
        simp only [Act.put, List.getElem_toArray, List.getElem_cons_succ, List.getElem_cons_zero, List.setIfInBounds_toArray, List.set_cons_zero, List.set_cons_succ]
        refine wpAnyH_take (i := 18) (v := .pointer (some ⟨o, 0, none⟩)) rfl (by kernel_rfl) (by kernel_rfl) (by kernel_rfl) (fun _ _ _ h => h) (.inl ⟨by rfl, by intro w hSw; go_simp⟩) hHeld ?_
        simp only [Act.put, List.getElem_toArray, List.getElem_cons_succ, List.getElem_cons_zero, List.setIfInBounds_toArray, List.set_cons_zero, List.set_cons_succ]
        refine wpAnyH_take (i := 19) (v := .pointer (some ⟨o, 2, none⟩)) rfl (by kernel_rfl) (by kernel_rfl) (by kernel_rfl) (fun _ _ _ h => h) (.inl ⟨by rfl, by intro w hSw; go_simp⟩) hHeld ?_
        simp only [Act.put, List.getElem_toArray, List.getElem_cons_succ, List.getElem_cons_zero, List.setIfInBounds_toArray, List.set_cons_zero, List.set_cons_succ]
        refine wpAnyH_take (i := 20) (v := .int .i64 fuj) rfl (by kernel_rfl) (by kernel_rfl) (by kernel_rfl) (fun _ _ _ h => h) (.inl ⟨by rfl, by intro w hSw; obtain ⟨hx0, hx1, hx2, hx3⟩ := hSw; go_simp⟩) hHeld ?_
        simp only [Act.put, List.getElem_toArray, List.getElem_cons_succ, List.getElem_cons_zero, List.setIfInBounds_toArray, List.set_cons_zero, List.set_cons_succ]
        refine wpAnyH_take (i := 21) (v := .slice va4 (secW rj).length vc4) rfl (by kernel_rfl) (by kernel_rfl) (by kernel_rfl) (fun _ _ _ h => h) (.inl ⟨by rfl, by intro w hSw; go_simp⟩) hHeld ?_
        simp only [Act.put, List.getElem_toArray, List.getElem_cons_succ, List.getElem_cons_zero, List.setIfInBounds_toArray, List.set_cons_zero, List.set_cons_succ]
        refine wpAnyH_ready (rs := [13]) (by kernel_rfl) (by simp) ?_
        refine AllReadyH.cons rfl (fun K hK => ?_) AllReadyH.nil
        go_simp
        (go_at_call 39; refine (HAR.out _).mono ?_; rintro e wz ⟨rfl, rfl⟩)
        try go_wp2_with fail
        refine hK.out _ _ hS0 (fun hHeld => ?_)
        clear hK K
        try simp only [Act.put, List.getElem_toArray, List.getElem_cons_succ, List.getElem_cons_zero, List.setIfInBounds_toArray, List.set_cons_zero, List.set_cons_succ]
        refine wpAnyH_ready (rs := [22]) (by kernel_rfl) (by simp) ?_
        refine AllReadyH.cons rfl (fun K hK => ?_) AllReadyH.nil
        go_simp
        (go_at_call 57; refine (HWC.out _ (Below.refl _ _).drew rfl).mono ?_; rintro e wz ⟨rfl, hKD, O', hD', hO'⟩)
        try go_wp2_with fail
        have hBz : Blk wz g 75 (walV (.pointer (some ⟨o, 0, none⟩)) p s.first lv oldv s.next 0) := (hKD.block g hgl4 hgo).trans HB4.out
        have hSz : wz.cell? ⟨g, 0, none⟩ = some (.pointer (some ⟨o, 0, none⟩)) ∧ wz.cell? ⟨g, 1, none⟩ = some (.pointer (some ⟨p, 0, none⟩)) ∧ wz.cell? ⟨o, 0, none⟩ = some (.int .u64 q.nu) ∧ wz.cell? ⟨o, 2, none⟩ = some (.int .i64 fuj) := ⟨hBz.cell 0, hBz.cell 1, (hKD.cell (p := ⟨o, 0, none⟩) hol4 hoo).trans y2, (hKD.cell (p := ⟨o, 2, none⟩) hol4 hoo).trans y3⟩
        have HSZ := Lib.hid (And.intro hKD (And.intro hD' (And.intro hO' hBz)))
        refine hK.out _ _ hSz (fun hHeld => ?_)
        clear hK K
        try simp only [Act.put, List.getElem_toArray, List.getElem_cons_succ, List.getElem_cons_zero, List.setIfInBounds_toArray, List.set_cons_zero, List.set_cons_succ]
        refine wpAnyH_ready (rs := [23]) (by kernel_rfl) (by simp) ?_
        refine AllReadyH.cons rfl (fun K hK => ?_) AllReadyH.nil
        go_simp
        (go_at_call 37; refine (did_any g _ p s.first lv oldv s.next 0 _ _ HSZ.out.2.2.2).mono ?_; rintro e w9 ⟨rfl, hB9, hK9, hs9⟩)
        try go_wp2_with fail
        have hS9 : w9.cell? ⟨g, 0, none⟩ = some (.pointer (some ⟨o, 0, none⟩)) ∧ w9.cell? ⟨g, 1, none⟩ = some (.pointer (some ⟨p, 0, none⟩)) ∧ w9.cell? ⟨o, 0, none⟩ = some (.int .u64 q.nu) ∧ w9.cell? ⟨o, 2, none⟩ = some (.int .i64 fuj) := ⟨hB9.cell 0, hB9.cell 1, (hK9.cell (p := ⟨o, 0, none⟩) (Nat.lt_of_lt_of_le hol4 HSZ.out.1.size) hne).trans hSz.2.2.1, (hK9.cell (p := ⟨o, 2, none⟩) (Nat.lt_of_lt_of_le hol4 HSZ.out.1.size) hne).trans hSz.2.2.2⟩
        have HB9 := Lib.hid (And.intro hB9 (And.intro hK9 hs9))
        clear hB9 hK9 hs9
        refine hK.out _ _ hS9 (fun hHeld => ?_)
        clear hK K
        try simp only [Act.put, List.getElem_toArray, List.getElem_cons_succ, List.getElem_cons_zero, List.setIfInBounds_toArray, List.set_cons_zero, List.set_cons_succ]
        refine wpAnyH_take (i := 24) (v := .bool true) rfl (by kernel_rfl) (by kernel_rfl) (by kernel_rfl) (fun _ _ _ h => h) (.inl ⟨by rfl, by intro w hSw; go_simp⟩) hHeld ?_
        simp only [Act.put, List.getElem_toArray, List.getElem_cons_succ, List.getElem_cons_zero, List.setIfInBounds_toArray, List.set_cons_zero, List.set_cons_succ]
        refine wpAnyH_take (i := 25) (v := .bool true) rfl (by kernel_rfl) (by kernel_rfl) (by kernel_rfl) (fun _ _ _ h => h) (.inl ⟨by rfl, by intro w hSw; go_simp⟩) hHeld ?_
        simp only [Act.put, List.getElem_toArray, List.getElem_cons_succ, List.getElem_cons_zero, List.setIfInBounds_toArray, List.set_cons_zero, List.set_cons_succ]
        refine wpAnyH_take (i := 26) (v := undef) rfl (by kernel_rfl) (by kernel_rfl) (by kernel_rfl) (fun _ _ _ h => h) (.inr ⟨by rfl, rfl⟩) hHeld ?_
        simp only [Act.put, List.getElem_toArray, List.getElem_cons_succ, List.getElem_cons_zero, List.setIfInBounds_toArray, List.set_cons_zero, List.set_cons_succ]
        refine wpAnyH_take (i := 27) (v := undef) rfl (by kernel_rfl) (by kernel_rfl) (by kernel_rfl) (fun _ _ _ h => h) (.inr ⟨by rfl, rfl⟩) hHeld ?_
        simp only [Act.put, List.getElem_toArray, List.getElem_cons_succ, List.getElem_cons_zero, List.setIfInBounds_toArray, List.set_cons_zero, List.set_cons_succ]
        refine wpAnyH_take (i := 28) (v := .bool true) rfl (by kernel_rfl) (by kernel_rfl) (by kernel_rfl) (fun _ _ _ h => h) (.inl ⟨by rfl, by intro w hSw; go_simp⟩) hHeld ?_
        simp only [Act.put, List.getElem_toArray, List.getElem_cons_succ, List.getElem_cons_zero, List.setIfInBounds_toArray, List.set_cons_zero, List.set_cons_succ]
        refine wpAnyH_done (by kernel_rfl) ?_ _
        refine NoPanic.normal ?_
        have HALL := Lib.hid (And.intro HSZ.out HB9.out)
        clear HSZ HB9 hKD hD' hO' hBz hSz hS9
        obtain ⟨⟨hK, hD', hO', hBz⟩, hB9, hK9, hs9⟩ := HALL.out
        simp only [if_true] at hB9
        have hA9 := (HA4.out.below (Below.refl _ _).drew).call hK hD' hO' hB9 hK9 hs9
        have z6 := (blk7 hB9).2.2.2.2.2.2
        have HA9 := Lib.hid hA9
        clear HALL hK hD' hO' hBz hB9 hK9 hs9 hA9
        go_wp2_with fail
        go_ret
        have ht : T = (st', fuj, rj, E) := by
          rw [HTE.out, wrF, HES.out.1, HES.out.2, if_pos (.inl hE0)]
        rw [ht]
        exact ⟨rfl, O', Qj, HA9.out.log⟩
      · subst hE0
        first
        | skip
          go_region_held3 (fun w' => w'.cell? ⟨g, 0, none⟩ = some (.pointer (some ⟨o, 0, none⟩)) ∧ w'.cell? ⟨g, 1, none⟩ = some (.pointer (some ⟨p, 0, none⟩)) ∧ w'.cell? ⟨o, 0, none⟩ = some (.int .u64 q.nu) ∧ w'.cell? ⟨o, 2, none⟩ = some (.int .i64 fuj)) (first | assumption) (first
          | (go_at_call 39; refine (HAR.out _).mono ?_; rintro e wz ⟨rfl, rfl⟩)
          | (go_at_call 57
             refine (HWC.out _ (Below.refl _ _).drew rfl).mono ?_
             rintro e wz ⟨rfl, hK, O', hD', hO'⟩
             have hBz : Blk wz g 75 (walV (.pointer (some ⟨o, 0, none⟩)) p s.first lv oldv s.next 0) := (hK.block g hgl4 hgo).trans HB4.out
             have hSz : wz.cell? ⟨g, 0, none⟩ = some (.pointer (some ⟨o, 0, none⟩)) ∧ wz.cell? ⟨g, 1, none⟩ = some (.pointer (some ⟨p, 0, none⟩)) ∧ wz.cell? ⟨o, 0, none⟩ = some (.int .u64 q.nu) ∧ wz.cell? ⟨o, 2, none⟩ = some (.int .i64 fuj) := ⟨hBz.cell 0, hBz.cell 1, (hK.cell (p := ⟨o, 0, none⟩) hol4 hoo).trans y2, (hK.cell (p := ⟨o, 2, none⟩) hol4 hoo).trans y3⟩
             have HSZ := Lib.hid (And.intro hK (And.intro hD' (And.intro hO' hBz))))
          | (go_at_call 37
             refine (did_any g _ p s.first lv oldv s.next 0 _ _ HSZ.out.2.2.2).mono ?_
             rintro e w9 ⟨rfl, hB9, hK9, hs9⟩
             have hS9 : w9.cell? ⟨g, 0, none⟩ = some (.pointer (some ⟨o, 0, none⟩)) ∧ w9.cell? ⟨g, 1, none⟩ = some (.pointer (some ⟨p, 0, none⟩)) ∧ w9.cell? ⟨o, 0, none⟩ = some (.int .u64 q.nu) ∧ w9.cell? ⟨o, 2, none⟩ = some (.int .i64 fuj) := ⟨hB9.cell 0, hB9.cell 1, (hK9.cell (p := ⟨o, 0, none⟩) (Nat.lt_of_lt_of_le hol4 HSZ.out.1.size) hne).trans hSz.2.2.1, (hK9.cell (p := ⟨o, 2, none⟩) (Nat.lt_of_lt_of_le hol4 HSZ.out.1.size) hne).trans hSz.2.2.2⟩
             have HB9 := Lib.hid (And.intro hB9 (And.intro hK9 hs9))
             clear hB9 hK9 hs9))
        | fail "region"
        all_goals
          have HALL := Lib.hid (And.intro HSZ.out HB9.out)
          clear HSZ HB9 hK hD' hO' hBz hSz hS9
          obtain ⟨⟨hK, hD', hO', hBz⟩, hB9, hK9, hs9⟩ := HALL.out
          simp only [if_true] at hB9
          have hA9 := (HA4.out.below (Below.refl _ _).drew).call hK hD' hO' hB9 hK9 hs9
          have z6 := (blk7 hB9).2.2.2.2.2.2
          have HA9 := Lib.hid hA9
          clear HALL hK hD' hO' hBz hB9 hK9 hs9 hA9
          go_wp2_with fail
          go_ret
          have ht : T = (st', fuj, rj, 0) := by
            rw [HTE.out, wrF, HES.out.1, HES.out.2, if_pos]
            exact .inr (by have h1 := HU.out; have h2 := HN.out; omega)
          rw [ht]
          exact ⟨rfl, O', Qj, HA9.out.log⟩
      · subst hE0
        first
        | skip
          go_region_held3 (fun w' => w'.cell? ⟨g, 0, none⟩ = some (.pointer (some ⟨o, 0, none⟩)) ∧ w'.cell? ⟨g, 1, none⟩ = some (.pointer (some ⟨p, 0, none⟩)) ∧ w'.cell? ⟨o, 0, none⟩ = some (.int .u64 q.nu) ∧ w'.cell? ⟨o, 2, none⟩ = some (.int .i64 fuj)) (first | assumption) (first
          | (go_at_call 39; refine (HAR.out _).mono ?_; rintro e wz ⟨rfl, rfl⟩)
          | (go_at_call 57
             refine (HWC.out _ (Below.refl _ _).drew rfl).mono ?_
             rintro e wz ⟨rfl, hK, O', hD', hO'⟩
             have hBz : Blk wz g 75 (walV (.pointer (some ⟨o, 0, none⟩)) p s.first lv oldv s.next 0) := (hK.block g hgl4 hgo).trans HB4.out
             have hSz : wz.cell? ⟨g, 0, none⟩ = some (.pointer (some ⟨o, 0, none⟩)) ∧ wz.cell? ⟨g, 1, none⟩ = some (.pointer (some ⟨p, 0, none⟩)) ∧ wz.cell? ⟨o, 0, none⟩ = some (.int .u64 q.nu) ∧ wz.cell? ⟨o, 2, none⟩ = some (.int .i64 fuj) := ⟨hBz.cell 0, hBz.cell 1, (hK.cell (p := ⟨o, 0, none⟩) hol4 hoo).trans y2, (hK.cell (p := ⟨o, 2, none⟩) hol4 hoo).trans y3⟩
             have HSZ := Lib.hid (And.intro hK (And.intro hD' (And.intro hO' hBz))))
          | (go_at_call 37
             refine (did_any g _ p s.first lv oldv s.next 0 _ _ HSZ.out.2.2.2).mono ?_
             rintro e w9 ⟨rfl, hB9, hK9, hs9⟩
             have hS9 : w9.cell? ⟨g, 0, none⟩ = some (.pointer (some ⟨o, 0, none⟩)) ∧ w9.cell? ⟨g, 1, none⟩ = some (.pointer (some ⟨p, 0, none⟩)) ∧ w9.cell? ⟨o, 0, none⟩ = some (.int .u64 q.nu) ∧ w9.cell? ⟨o, 2, none⟩ = some (.int .i64 fuj) := ⟨hB9.cell 0, hB9.cell 1, (hK9.cell (p := ⟨o, 0, none⟩) (Nat.lt_of_lt_of_le hol4 HSZ.out.1.size) hne).trans hSz.2.2.1, (hK9.cell (p := ⟨o, 2, none⟩) (Nat.lt_of_lt_of_le hol4 HSZ.out.1.size) hne).trans hSz.2.2.2⟩
             have HB9 := Lib.hid (And.intro hB9 (And.intro hK9 hs9))
             clear hB9 hK9 hs9))
        | fail "region"
        all_goals
          have HALL := Lib.hid (And.intro HSZ.out HB9.out)
          clear HSZ HB9 hK hD' hO' hBz hSz hS9
          obtain ⟨⟨hK, hD', hO', hBz⟩, hB9, hK9, hs9⟩ := HALL.out
          simp only [if_true] at hB9
          have hA9 := (HA4.out.below (Below.refl _ _).drew).call hK hD' hO' hB9 hK9 hs9
          obtain ⟨z0, z1, _, _, _, _, z6⟩ := blk7 hB9
          obtain ⟨t0, _, t2, t3, t4, t5⟩ := openV_at hA9.blk
          have HA9 := Lib.hid hA9
          have hu63 : u = 63 := by omega
          clear HALL hK hD' hO' hBz hB9 hK9 hs9 hA9 HWC HB4 HA4
          rw [HN.out] at t3
          have hinext : IntKind.i64.wrap ((fuj : Int) + 1) = ((fuj + 1 : Nat) : Int) := IntWalk.i64_in _ (by omega)
          have hjcase : (N = u ∧ jc = u) ∨ (N = u ∧ jc ≠ u) ∨ (N ≠ u ∧ jc ≠ u) := by omega
          have HIN := Lib.hid hinext
          clear hinext
          rcases hjcase with ⟨hn1, hj1⟩ | ⟨hn1, hj1⟩ | ⟨hn1, hj1⟩
          · subst hn1 hj1
            go_wp2_with fail
            refine' wp_cut0 _ _ ?reg ?imp
            case reg =>
              go_region_law (fail)
              all_goals
                refine ⟨rfl, ?_, ?_⟩
                · exact Eq.refl _
                · exact Eq.refl _
            case imp =>
              go_wp2_with fail
              go_ret
              have hA := HA9.out
              have ht : T = (st', fuj + 1, [], 0) := by
                have h1 := HN.out
                rw [HTE.out, wrF, HES.out.1, HES.out.2, if_neg (by omega), if_pos (List.drop_eq_nil_of_le (by omega))]
              rw [ht]
              refine ⟨rfl, O', Qj, ?_⟩
              exact (hA.inc.none.below (Below.refl _ _).drew).log
          · subst hn1
            go_wp2_with fail
            refine' wp_cut0 _ _ ?reg ?imp
            case reg =>
              go_region_law (fail)
              all_goals
                refine ⟨rfl, ?_, ?_⟩
                · exact Eq.refl _
                · exact Eq.refl _
            case imp =>
              go_wp2_with fail
              go_ret
              have hA := HA9.out
              have ht : T = (st', fuj + 1, [], 0) := by
                have h1 := HN.out
                rw [HTE.out, wrF, HES.out.1, HES.out.2, if_neg (by omega), if_pos (List.drop_eq_nil_of_le (by omega))]
              rw [ht]
              refine ⟨rfl, O', Qj, ?_⟩
              have h1 := HN.out
              have hd := hA.inc.drop (k := 63) rfl (by omega)
              rw [show rj.drop 63 = [] from List.drop_eq_nil_of_le (by omega), h1, show N - 63 = 0 by omega] at hd
              exact (hd.below (Below.refl _ _).drew).log
          · obtain ⟨M, hM⟩ : ∃ M, N - u = M := ⟨_, rfl⟩
            have HU63 := Lib.hid hu63
            have HMN := Lib.hid hM
            have hM0 : ((M : Int) == 0) = false := by rw [beq_eq_false_iff_ne]; omega
            have hM1 : ¬ ((M : Int) = 0) := by omega
            have hu4 : (0 : Int) ≤ (u : Int) := by omega
            have hu5 : (u : Int) ≤ (N : Int) := by omega
            have hu6 : (u : Int) ≤ (jc : Int) := by omega
            have hu7 : u ≤ jc := by omega
            have hu8 : u < jc := by omega
            clear hu63
            go_wp2_with fail
            refine' wp_cut0 _ _ ?reg ?imp
            case reg =>
              go_region_law (fail)
              all_goals
                refine ⟨rfl, ?_, ?_⟩
                · exact Eq.refl _
                · exact Eq.refl _
            case imp =>
              go_wp2_with fail
              have hA := HA9.out
              have hs0 : ({ s with code := 0 } : LSt) = s := by
                have := HC.out
                cases s
                simp_all
              rw [hs0] at hA
              have h1 := HN.out
              have h2 := HMN.out
              have h3 := HU63.out
              have hd := (hA.inc.drop (k := u) rfl (by omega)).below (Below.refl _ _).drew
              rw [h1, h2] at hd
              refine ⟨⟨f, st', fuj + 1, rj.drop u, O', Qj, _, ij + 1, hd, ?_, ?_, by omega, by omega, ?_, ?_, ?_⟩, ?_⟩
              · rw [HTE.out, wrF, HES.out.1, HES.out.2, if_neg (by omega), if_neg (fun e => ?_), h3]
                have := congrArg List.length e
                rw [List.length_drop, List.length_nil] at this
                omega
              · rw [← HES.out.2]
                exact fit_do HFJ.out (wf_i64 (by omega) (by omega))
              · intro e
                have := congrArg List.length e
                rw [List.length_drop, List.length_nil] at this
                omega
              · rw [List.length_drop]; omega
              · intro x hx
                exact HBY.out x (List.mem_of_mem_drop hx)
              · have e1 := (openV_at hd.blk).2.2.2.1
                have e2 := (openV_at HAT.out.blk).2.2.2.1
                have e3 : msrO o wr = rj.length := by unfold msrO; rw [e2]
                have e4 : ∀ W : World, W.cell? ⟨o, 3, none⟩ = some (.slice (some ⟨jb, jo + u, none⟩) M (jc - u)) → msrO o W = M := fun W h => by unfold msrO; rw [h]
                rw [e3]
                refine Nat.lt_of_le_of_lt (Nat.le_of_eq (e4 _ e1)) ?_
                omega
end Go.Proofs.YtcpkpljeimbdiaaGreat.W
