/-
  The sum of bytes; a slot's sector: plain laws.
-/
import Derived.Laws.BitsAllLaws
namespace Go.Proofs.Ytfoogbchajgepaa.S
set_option linter.unusedSimpArgs false
set_option linter.unusedVariables false

def crcStep (s : Nat) : Nat := (s / 2) ^^^ (if s % 2 = 1 then 2197175160 else 0)
def crcN : Nat → Nat → Nat
  | 0, s => s
  | k + 1, s => crcStep (crcN k s)
def crcL : Nat → List Nat → Nat
  | s, [] => s
  | s, c :: l => crcL (crcN 8 (s ^^^ c)) l
def sumN (l : List Nat) : Nat := 4294967295 - crcL 4294967295 l
theorem crcStep_lt {s : Nat} (h : s < 4294967296) : crcStep s < 4294967296 := by
  unfold crcStep
  refine Nat.xor_lt_two_pow (n := 32) (by omega) ?_
  split <;> decide
theorem crcN_lt {s : Nat} (h : s < 4294967296) : ∀ k, crcN k s < 4294967296
  | 0 => h
  | k + 1 => crcStep_lt (crcN_lt h k)
theorem crcL_lt : ∀ {l : List Nat} {s : Nat}, s < 4294967296 → (∀ c ∈ l, c < 256) → crcL s l < 4294967296
  | [], s, h, _ => h
  | c :: l, s, h, hc => by
    have hx : c < 2 ^ 32 := Nat.lt_trans (hc c (by simp)) (by decide)
    exact crcL_lt (l := l) (s := crcN 8 (s ^^^ c)) (crcN_lt (Nat.xor_lt_two_pow (n := 32) h hx) 8) (fun x hx => hc x (by simp [hx]))
theorem crcStep_top {s : Nat} (h : s < 4294967296) : (crcStep s).testBit 31 = decide (s % 2 = 1) := by
  unfold crcStep
  rw [Nat.testBit_xor, Nat.testBit_lt_two_pow (x := s / 2) (i := 31) (by omega), Bool.false_xor]
  by_cases e : s % 2 = 1
  · rw [if_pos e]; simp [e]; decide
  · rw [if_neg e]; simp [e]
theorem xor_cancel {a b c : Nat} (h : a ^^^ c = b ^^^ c) : a = b := by
  have := congrArg (· ^^^ c) h
  simpa [Nat.xor_assoc] using this
theorem crcStep_inj {s t : Nat} (hs : s < 4294967296) (ht : t < 4294967296) (h : crcStep s = crcStep t) : s = t := by
  have h1 := crcStep_top hs
  have h2 := crcStep_top ht
  rw [h, h2] at h1
  have h3 : (s % 2 = 1) ↔ (t % 2 = 1) := by
    have := decide_eq_decide.1 h1
    exact this.symm
  unfold crcStep at h
  by_cases e : s % 2 = 1
  · rw [if_pos e, if_pos (h3.1 e)] at h
    have := xor_cancel h
    have := h3.1 e
    omega
  · have e' : ¬ t % 2 = 1 := fun x => e (h3.2 x)
    rw [if_neg e, if_neg e'] at h
    have := xor_cancel h
    omega
theorem crcN_inj {s t : Nat} (hs : s < 4294967296) (ht : t < 4294967296) : ∀ k, crcN k s = crcN k t → s = t
  | 0, h => h
  | k + 1, h => crcN_inj hs ht k (crcStep_inj (crcN_lt hs k) (crcN_lt ht k) h)
theorem crcL_inj : ∀ {l : List Nat} {s t : Nat}, s < 4294967296 → t < 4294967296 → (∀ c ∈ l, c < 256) → crcL s l = crcL t l → s = t
  | [], s, t, _, _, _, h => h
  | c :: l, s, t, hs, ht, hc, h => by
    have hx : c < 2 ^ 32 := Nat.lt_trans (hc c (by simp)) (by decide)
    have h1 := crcL_inj (crcN_lt (Nat.xor_lt_two_pow (n := 32) hs hx) 8) (crcN_lt (Nat.xor_lt_two_pow (n := 32) ht hx) 8) (fun x hx => hc x (by simp [hx])) h
    exact xor_cancel (crcN_inj (Nat.xor_lt_two_pow (n := 32) hs hx) (Nat.xor_lt_two_pow (n := 32) ht hx) 8 h1)
/-- one byte is another one: so is the sum -/
theorem crcL_set : ∀ {l : List Nat} {s j y : Nat}, s < 4294967296 → (∀ c ∈ l, c < 256) → y < 256 → (hj : j < l.length) → y ≠ l[j] → crcL s (l.set j y) ≠ crcL s l
  | c :: l, s, 0, y, hs, hc, hy, hj, hne => fun h => by
    simp only [List.set_cons_zero] at h
    have hc32 : c < 2 ^ 32 := Nat.lt_trans (hc c (by simp)) (by decide)
    have hy32 : y < 2 ^ 32 := Nat.lt_trans hy (by decide)
    have h1 := crcL_inj (crcN_lt (Nat.xor_lt_two_pow (n := 32) hs hy32) 8) (crcN_lt (Nat.xor_lt_two_pow (n := 32) hs hc32) 8) (fun x hx => hc x (by simp [hx])) h
    have h2 := crcN_inj (Nat.xor_lt_two_pow (n := 32) hs hy32) (Nat.xor_lt_two_pow (n := 32) hs hc32) 8 h1
    rw [Nat.xor_comm s y, Nat.xor_comm s c] at h2
    exact hne (by simpa using xor_cancel h2)
  | c :: l, s, j + 1, y, hs, hc, hy, hj, hne => fun h => by
    simp only [List.set_cons_succ] at h
    have hc32 : c < 2 ^ 32 := Nat.lt_trans (hc c (by simp)) (by decide)
    exact crcL_set (crcN_lt (Nat.xor_lt_two_pow (n := 32) hs hc32) 8) (fun x hx => hc x (by simp [hx])) hy (by simpa using hj) (by simpa using hne) h
theorem sumN_lt (l : List Nat) : sumN l < 4294967296 := by unfold sumN; omega
theorem sumN_set {l : List Nat} {j y : Nat} (hc : ∀ c ∈ l, c < 256) (hy : y < 256) (hj : j < l.length) (hne : y ≠ l[j]) : sumN (l.set j y) ≠ sumN l := by
  have h := crcL_set (s := 4294967295) (by decide) hc hy hj hne
  have h1 := crcL_lt (l := l) (s := 4294967295) (by decide) hc
  have h2 := crcL_lt (l := l.set j y) (s := 4294967295) (by decide) (fun c hc' => by
    rcases List.mem_or_eq_of_mem_set hc' with h | h
    · exact hc c h
    · exact h ▸ hy)
  unfold sumN
  omega
theorem crcL_snoc : ∀ (l : List Nat) (s c : Nat), crcL s (l ++ [c]) = crcN 8 (crcL s l ^^^ c)
  | [], s, c => rfl
  | x :: l, s, c => crcL_snoc l _ c

/-- bytes -/
def By (l : List Int) : Prop := ∀ x ∈ l, 0 ≤ x ∧ x ≤ 255
def sumI (l : List Int) : Nat := sumN (l.map Int.toNat)
def dig (n i : Nat) : Int := ((n / 256 ^ i % 256 : Nat) : Int)
def digL (n k : Nat) : List Int := (List.range k).map (dig n)
def baseL (n : Nat) (v : List Int) : List Int := digL n 8 ++ (v.length : Int) :: (v ++ List.replicate (51 - v.length) 0)
def secL (n : Nat) (v : List Int) : List Int := baseL n v ++ digL (sumI (baseL n v)) 4
theorem digL_len (n k : Nat) : (digL n k).length = k := by simp [digL]
theorem digL_by (n k : Nat) : By (digL n k) := by
  intro x hx
  obtain ⟨i, _, rfl⟩ := List.mem_map.1 hx
  unfold dig
  have := Nat.mod_lt (n / 256 ^ i) (show 0 < 256 by decide)
  omega
theorem baseL_len {n : Nat} {v : List Int} (h : v.length ≤ 51) : (baseL n v).length = 60 := by simp [baseL, digL_len]; omega
theorem baseL_by {n : Nat} {v : List Int} (h : v.length ≤ 51) (hv : By v) : By (baseL n v) := by
  intro x hx
  unfold baseL at hx
  rcases List.mem_append.1 hx with hx | hx
  · exact digL_by _ _ x hx
  rcases List.mem_cons.1 hx with rfl | hx
  · omega
  rcases List.mem_append.1 hx with hx | hx
  · exact hv x hx
  · have := List.eq_of_mem_replicate hx; omega
theorem secL_len {n : Nat} {v : List Int} (h : v.length ≤ 51) : (secL n v).length = 64 := by unfold secL; rw [List.length_append, baseL_len h, digL_len]
theorem secL_by {n : Nat} {v : List Int} (h : v.length ≤ 51) (hv : By v) : By (secL n v) := by
  intro x hx
  rcases List.mem_append.1 hx with hx | hx
  · exact baseL_by h hv x hx
  · exact digL_by _ _ x hx
/-- digits tell a number -/
def undig : List Int → Nat
  | [] => 0
  | x :: l => x.toNat + 256 * undig l
theorem digL_succ (n k : Nat) : digL n (k + 1) = ((n % 256 : Nat) : Int) :: digL (n / 256) k := by
  unfold digL
  rw [List.range_succ_eq_map, List.map_cons, List.map_map]
  congr 1
  · simp [dig]
  · refine List.map_congr_left fun i _ => ?_
    simp only [Function.comp, dig]
    rw [Nat.pow_succ, Nat.mul_comm, Nat.div_div_eq_div_mul]
theorem undig_digL : ∀ (k n : Nat), undig (digL n k) = n % 256 ^ k
  | 0, n => by simp [digL, undig, Nat.mod_one]
  | k + 1, n => by
    rw [digL_succ, undig, undig_digL k, Nat.pow_succ, Nat.mul_comm (256 ^ k) 256, Nat.mod_mul, Int.toNat_natCast]
theorem digL_inj {n m k : Nat} (hn : n < 256 ^ k) (hm : m < 256 ^ k) (h : digL n k = digL m k) : n = m := by
  have h1 := undig_digL k n
  have h2 := undig_digL k m
  rw [h, h2, Nat.mod_eq_of_lt hn, Nat.mod_eq_of_lt hm] at h1
  exact h1.symm
theorem toNat_inj_by {l m : List Int} (hl : By l) (hm : By m) (h : l.map Int.toNat = m.map Int.toNat) : l = m := by
  induction l generalizing m with
  | nil => cases m with
    | nil => rfl
    | cons y m => simp at h
  | cons x l ih => cases m with
    | nil => simp at h
    | cons y m =>
      simp only [List.map_cons, List.cons.injEq] at h
      have h1 := hl x (by simp)
      have h2 := hm y (by simp)
      have := ih (fun z hz => hl z (by simp [hz])) (fun z hz => hm z (by simp [hz])) h.2
      rw [this, show x = y by omega]
/-- of which number, which value a sector is -/
def numOf (l : List Int) : Nat := undig (l.take 8)
def valOf (l : List Int) : List Int := (l.drop 9).take (l.getD 8 0).toNat
theorem numOf_sec {n : Nat} {v : List Int} (h : n < 18446744073709551616) : numOf (secL n v) = n := by
  have e : (secL n v).take 8 = digL n 8 := by
    unfold secL baseL
    rw [List.append_assoc, List.take_append_of_le_length (by rw [digL_len]; exact Nat.le_refl 8), List.take_of_length_le (by rw [digL_len]; exact Nat.le_refl 8)]
  unfold numOf
  rw [e, undig_digL, Nat.mod_eq_of_lt h]
theorem sec_8 {n : Nat} {v : List Int} : (secL n v).getD 8 0 = v.length := by
  unfold secL baseL
  simp only [List.getD_eq_getElem?_getD]
  rw [List.append_assoc, List.getElem?_append_right (by rw [digL_len]; exact Nat.le_refl 8), digL_len]
  rfl
theorem valOf_sec {n : Nat} {v : List Int} : valOf (secL n v) = v := by
  unfold valOf
  rw [sec_8]
  unfold secL baseL
  rw [List.append_assoc, List.drop_append, digL_len, List.drop_eq_nil_of_le (by rw [digL_len]; decide), List.nil_append]
  show List.take _ (v ++ _ ++ _) = v
  rw [List.append_assoc, List.take_append_of_le_length (by simp), List.take_of_length_le (by simp)]
/-- one byte of a sector is another one: it is no sector -/
theorem sec_set {n m : Nat} {v u : List Int} {j : Nat} {y : Int} (hv : v.length ≤ 51) (hu : u.length ≤ 51) (bv : By v) (bu : By u) (hj : j < 64) (hy : 0 ≤ y ∧ y ≤ 255) (hne : y ≠ (secL n v).getD j 0) : secL m u ≠ (secL n v).set j y := by
  intro h
  have l1 := baseL_len (n := n) hv
  have l2 := baseL_len (n := m) hu
  unfold secL at h hne
  by_cases h60 : j < 60
  · rw [List.set_append_left _ _ (by rw [l1]; exact h60)] at h
    obtain ⟨e1, e2⟩ := List.append_inj h (by rw [l2, List.length_set, l1])
    have e3 := digL_inj (by have := sumN_lt ((baseL m u).map Int.toNat); unfold sumI; omega) (by have := sumN_lt ((baseL n v).map Int.toNat); unfold sumI; omega) e2
    rw [e1] at e3
    unfold sumI at e3
    rw [List.map_set] at e3
    have b1 := baseL_by (n := n) hv bv
    refine sumN_set (l := (baseL n v).map Int.toNat) (j := j) (y := y.toNat) (fun c hc => ?_) (by omega) (by simp [l1]; exact h60) ?_ e3
    · obtain ⟨x, hx, rfl⟩ := List.mem_map.1 hc
      have := b1 x hx
      omega
    · intro e
      apply hne
      have hj' : j < (baseL n v).length := by rw [l1]; exact h60
      rw [List.getD_eq_getElem?_getD, List.getElem?_append_left hj', List.getElem?_eq_getElem hj', Option.getD_some]
      rw [List.getElem_map] at e
      have := b1 _ (List.getElem_mem hj')
      omega
  · rw [List.set_append_right _ _ (by rw [l1]; omega)] at h
    obtain ⟨e1, e2⟩ := List.append_inj h (by rw [l2, l1])
    rw [e1, l1] at e2
    apply hne
    rw [List.getD_eq_getElem?_getD, List.getElem?_append_right (by rw [l1]; omega), l1]
    have := congrArg (fun l : List Int => l[j - 60]?) e2
    rw [List.getElem?_set_self (by rw [digL_len]; omega)] at this
    rw [this]; rfl
end Go.Proofs.Ytfoogbchajgepaa.S
