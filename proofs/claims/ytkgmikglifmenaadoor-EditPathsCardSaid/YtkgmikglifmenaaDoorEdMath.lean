/-
  The plain mathematics of layer 10 (edit): the distance of two rows of numbers. No program is in sight.
-/
namespace Go.Proofs.YtkgmikglifmenaaDoor.EM
set_option linter.unusedSimpArgs false
set_option linter.unusedVariables false

/-- the distances of a row with one number more ahead: f has those without it -/
def lvRow (x : Int) (f : List Int → Nat) : List Int → Nat
  | [] => f [] + 1
  | y :: m => min (min (lvRow x f m + 1) (f (y :: m) + 1)) (f m + if x = y then 0 else 1)
/-- the distance -/
def lv : List Int → List Int → Nat
  | [] => fun m => m.length
  | x :: l => lvRow x (lv l)
theorem lv_nil (m : List Int) : lv [] m = m.length := rfl
theorem lv_cons_nil (x : Int) (l : List Int) : lv (x :: l) [] = lv l [] + 1 := rfl
theorem lv_cons_cons (x y : Int) (l m : List Int) : lv (x :: l) (y :: m) = min (min (lv (x :: l) m + 1) (lv l (y :: m) + 1)) (lv l m + if x = y then 0 else 1) := rfl

/-- so many edits lead from one row to the other -/
inductive Ed : Nat → List Int → List Int → Prop
  | nil : Ed 0 [] []
  | keep (x : Int) {n : Nat} {l m : List Int} : Ed n l m → Ed n (x :: l) (x :: m)
  | out (x : Int) {n : Nat} {l m : List Int} : Ed n l m → Ed (n + 1) (x :: l) m
  | put (y : Int) {n : Nat} {l m : List Int} : Ed n l m → Ed (n + 1) l (y :: m)
  | other (x y : Int) {n : Nat} {l m : List Int} : Ed n l m → Ed (n + 1) (x :: l) (y :: m)

theorem ed_refl : ∀ l, Ed 0 l l
  | [] => .nil
  | x :: l => .keep x (ed_refl l)
theorem ed_symm {n : Nat} {l m : List Int} (h : Ed n l m) : Ed n m l := by
  induction h with
  | nil => exact .nil
  | keep x _ ih => exact .keep x ih
  | out x _ ih => exact .put x ih
  | put y _ ih => exact .out y ih
  | other x y _ ih => exact .other y x ih
theorem ed_zero {n : Nat} {l m : List Int} (h : Ed n l m) (hn : n = 0) : l = m := by
  induction h with
  | nil => rfl
  | keep x _ ih => rw [ih hn]
  | out x _ _ => omega
  | put y _ _ => omega
  | other x y _ _ => omega
theorem ed_app {n k : Nat} {l m s t : List Int} (h : Ed n l m) (h' : Ed k s t) : Ed (n + k) (l ++ s) (m ++ t) := by
  induction h with
  | nil => simpa using h'
  | keep x _ ih => exact .keep x ih
  | out x _ ih => rw [Nat.add_right_comm]; exact .out x ih
  | put y _ ih => rw [Nat.add_right_comm]; exact .put y ih
  | other x y _ ih => rw [Nat.add_right_comm]; exact .other x y ih
theorem ed_rev {n : Nat} {l m : List Int} (h : Ed n l m) : Ed n l.reverse m.reverse := by
  induction h with
  | nil => exact .nil
  | keep x _ ih => simp only [List.reverse_cons]; simpa using ed_app ih (ed_refl [x])
  | out x _ ih => simp only [List.reverse_cons]; simpa using ed_app ih (Ed.out x .nil)
  | put y _ ih => simp only [List.reverse_cons]; simpa using ed_app ih (Ed.put y .nil)
  | other x y _ ih => simp only [List.reverse_cons]; simpa using ed_app ih (Ed.other x y .nil)
theorem ed_len {n : Nat} {l m : List Int} (h : Ed n l m) : l.length ≤ m.length + n ∧ m.length ≤ l.length + n := by
  induction h with
  | nil => simp
  | keep x _ ih => simp; omega
  | out x _ ih => simp; omega
  | put y _ ih => simp; omega
  | other x y _ ih => simp; omega
theorem ed_tri (N : Nat) : ∀ {n k : Nat} {a b c : List Int}, a.length + b.length + c.length ≤ N → Ed n a b → Ed k b c → ∃ t, t ≤ n + k ∧ Ed t a c := by
  induction N with
  | zero =>
    intro n k a b c h h1 h2
    have ha : a = [] := List.eq_nil_of_length_eq_zero (by omega)
    have hc : c = [] := List.eq_nil_of_length_eq_zero (by omega)
    subst ha hc
    exact ⟨0, by omega, .nil⟩
  | succ N ih =>
    intro n k a b c h h1 h2
    cases h1 with
    | nil => exact ⟨k, by omega, h2⟩
    | out x h1 =>
      simp at h
      obtain ⟨t, ht, hd⟩ := ih (by omega) h1 h2
      exact ⟨t + 1, by omega, .out x hd⟩
    | keep x h1 =>
      cases h2 with
      | keep _ h2 =>
        simp at h
        obtain ⟨t, ht, hd⟩ := ih (by omega) h1 h2
        exact ⟨t, by omega, .keep x hd⟩
      | out _ h2 =>
        simp at h
        obtain ⟨t, ht, hd⟩ := ih (by omega) h1 h2
        exact ⟨t + 1, by omega, .out x hd⟩
      | put z h2 =>
        simp at h
        obtain ⟨t, ht, hd⟩ := ih (by simp; omega) (Ed.keep x h1) h2
        exact ⟨t + 1, by omega, .put z hd⟩
      | other _ z h2 =>
        simp at h
        obtain ⟨t, ht, hd⟩ := ih (by omega) h1 h2
        exact ⟨t + 1, by omega, .other x z hd⟩
    | put y h1 =>
      cases h2 with
      | keep _ h2 =>
        simp at h
        obtain ⟨t, ht, hd⟩ := ih (by omega) h1 h2
        exact ⟨t + 1, by omega, .put y hd⟩
      | out _ h2 =>
        simp at h
        obtain ⟨t, ht, hd⟩ := ih (by omega) h1 h2
        exact ⟨t, by omega, hd⟩
      | put z h2 =>
        simp at h
        obtain ⟨t, ht, hd⟩ := ih (by simp; omega) (Ed.put y h1) h2
        exact ⟨t + 1, by omega, .put z hd⟩
      | other _ z h2 =>
        simp at h
        obtain ⟨t, ht, hd⟩ := ih (by omega) h1 h2
        exact ⟨t + 1, by omega, .put z hd⟩
    | other x y h1 =>
      cases h2 with
      | keep _ h2 =>
        simp at h
        obtain ⟨t, ht, hd⟩ := ih (by omega) h1 h2
        exact ⟨t + 1, by omega, .other x y hd⟩
      | out _ h2 =>
        simp at h
        obtain ⟨t, ht, hd⟩ := ih (by omega) h1 h2
        exact ⟨t + 1, by omega, .out x hd⟩
      | put z h2 =>
        simp at h
        obtain ⟨t, ht, hd⟩ := ih (by simp; omega) (Ed.other x y h1) h2
        exact ⟨t + 1, by omega, .put z hd⟩
      | other _ z h2 =>
        simp at h
        obtain ⟨t, ht, hd⟩ := ih (by omega) h1 h2
        exact ⟨t + 1, by omega, .other x z hd⟩

theorem lv_ed_nil : ∀ l, Ed (lv l []) l []
  | [] => .nil
  | x :: l => .out x (lv_ed_nil l)
theorem lv_ed (l : List Int) : ∀ m, Ed (lv l m) l m := by
  induction l with
  | nil =>
    intro m
    induction m with
    | nil => exact .nil
    | cons y m ih => exact .put y ih
  | cons x l ih =>
    intro m
    induction m with
    | nil => exact lv_ed_nil _
    | cons y m ihm =>
      rw [lv_cons_cons]
      have h3 : Ed (lv l m + if x = y then 0 else 1) (x :: l) (y :: m) := by
        by_cases h : x = y
        · subst h; simpa using Ed.keep x (ih m)
        · rw [if_neg h]; exact .other x y (ih m)
      have h1 := Ed.put y ihm
      have h2 := Ed.out x (ih (y :: m))
      rcases Nat.le_total (lv (x :: l) m + 1) (lv l (y :: m) + 1) with h | h
      · rw [Nat.min_eq_left h]
        rcases Nat.le_total (lv (x :: l) m + 1) (lv l m + if x = y then 0 else 1) with h' | h'
        · rw [Nat.min_eq_left h']; exact h1
        · rw [Nat.min_eq_right h']; exact h3
      · rw [Nat.min_eq_right h]
        rcases Nat.le_total (lv l (y :: m) + 1) (lv l m + if x = y then 0 else 1) with h' | h'
        · rw [Nat.min_eq_left h']; exact h2
        · rw [Nat.min_eq_right h']; exact h3
theorem lv_nil_right : ∀ l, lv l [] = l.length
  | [] => rfl
  | x :: l => by rw [lv_cons_nil, lv_nil_right l]; rfl
theorem lv_le {n : Nat} {l m : List Int} (h : Ed n l m) : lv l m ≤ n := by
  induction h with
  | nil => exact Nat.le_refl _
  | keep x _ ih => rw [lv_cons_cons]; simp; omega
  | @out x n l m h ih =>
    cases m with
    | nil => rw [lv_nil_right] at *; simp; omega
    | cons y m => rw [lv_cons_cons]; omega
  | @put y n l m h ih =>
    cases l with
    | nil => rw [lv_nil] at *; simp; omega
    | cons x l => rw [lv_cons_cons]; omega
  | other x y _ ih => rw [lv_cons_cons]; split <;> omega

theorem lv_comm (l m : List Int) : lv l m = lv m l := Nat.le_antisymm (lv_le (ed_symm (lv_ed m l))) (lv_le (ed_symm (lv_ed l m)))
theorem lv_tri (a b c : List Int) : lv a c ≤ lv a b + lv b c := by
  obtain ⟨t, ht, h⟩ := ed_tri _ (Nat.le_refl _) (lv_ed a b) (lv_ed b c)
  exact Nat.le_trans (lv_le h) ht
theorem lv_self (l : List Int) : lv l l = 0 := Nat.le_zero.1 (lv_le (ed_refl l))
theorem lv_zero {l m : List Int} : lv l m = 0 ↔ l = m := ⟨fun h => ed_zero (lv_ed l m) h, fun h => by subst h; exact lv_self l⟩
theorem lv_rev (l m : List Int) : lv l.reverse m.reverse = lv l m :=
  Nat.le_antisymm (lv_le (ed_rev (lv_ed l m))) (lv_le (by simpa using ed_rev (lv_ed l.reverse m.reverse)))
theorem lv_len (l m : List Int) : l.length ≤ m.length + lv l m ∧ m.length ≤ l.length + lv l m := ed_len (lv_ed l m)
theorem lv_max (l : List Int) : ∀ m, lv l m ≤ max l.length m.length := by
  induction l with
  | nil => intro m; rw [lv_nil]; omega
  | cons x l ih =>
    intro m
    cases m with
    | nil => rw [lv_nil_right]; omega
    | cons y m => rw [lv_cons_cons]; have := ih m; simp; split <;> omega
theorem lv_out (x : Int) (l m : List Int) : lv l m ≤ lv (x :: l) m + 1 := by
  have h := lv_tri l (x :: l) m
  have : lv l (x :: l) ≤ 1 := lv_le (.put x (ed_refl l))
  omega
theorem lv_put (y : Int) (l m : List Int) : lv l m ≤ lv l (y :: m) + 1 := by
  have h := lv_tri l (y :: m) m
  have : lv (y :: m) m ≤ 1 := lv_le (.out y (ed_refl m))
  omega
theorem lv_cons (x : Int) (l m : List Int) : lv (x :: l) (x :: m) = lv l m := by
  rw [lv_cons_cons]
  have h1 := lv_out x l m
  have h2 := lv_put x l m
  simp; omega
theorem lv_left (h l m : List Int) : lv (h ++ l) (h ++ m) = lv l m := by
  induction h with
  | nil => rfl
  | cons x h ih => rw [List.cons_append, List.cons_append, lv_cons, ih]
theorem lv_right (l m t : List Int) : lv (l ++ t) (m ++ t) = lv l m := by
  rw [← lv_rev, List.reverse_append, List.reverse_append, lv_left, lv_rev]

/-- the distance of two beginnings -/
def D (a b : List Int) (i j : Nat) : Nat := lv (a.take i) (b.take j)
theorem D_zero_left (a b : List Int) {j : Nat} (h : j ≤ b.length) : D a b 0 j = j := by simp [D, lv_nil, h]
theorem D_zero_right (a b : List Int) {i : Nat} (h : i ≤ a.length) : D a b i 0 = i := by simp [D, lv_nil_right, h]
theorem take_rev (a : List Int) {i : Nat} (h : i < a.length) : (a.take (i + 1)).reverse = a[i] :: (a.take i).reverse := by
  rw [List.take_succ_eq_append_getElem h]; simp
theorem D_rev (a b : List Int) (i j : Nat) : D a b i j = lv (a.take i).reverse (b.take j).reverse := (lv_rev _ _).symm
theorem D_step (a b : List Int) {i j : Nat} (hi : i < a.length) (hj : j < b.length) :
    D a b (i + 1) (j + 1) = min (min (D a b (i + 1) j + 1) (D a b i (j + 1) + 1)) (D a b i j + if a[i] = b[j] then 0 else 1) := by
  simp only [D_rev, take_rev a hi, take_rev b hj, lv_cons_cons]
theorem D_same (a b : List Int) {i j : Nat} (hi : i < a.length) (hj : j < b.length) (h : a[i] = b[j]) : D a b (i + 1) (j + 1) = D a b i j := by
  simp only [D_rev, take_rev a hi, take_rev b hj, h, lv_cons]
theorem D_other (a b : List Int) {i j : Nat} (hi : i < a.length) (hj : j < b.length) (h : a[i] ≠ b[j]) :
    D a b (i + 1) (j + 1) = 1 + min (min (D a b i j) (D a b i (j + 1))) (D a b (i + 1) j) := by
  rw [D_step a b hi hj, if_neg h]; omega
theorem D_full (a b : List Int) : D a b a.length b.length = lv a b := by simp [D]
theorem D_le (a b : List Int) {i j : Nat} (hi : i ≤ a.length) (hj : j ≤ b.length) : D a b i j ≤ max i j := by
  have := lv_max (a.take i) (b.take j)
  simp at this
  unfold D; omega

/-- with how many numbers two rows begin alike -/
def pre : List Int → List Int → Nat
  | a :: l, b :: m => if a = b then pre l m + 1 else 0
  | _, _ => 0
/-- is one row, which is no longer than the other, one edit from it? -/
def onceLe (a b : List Int) : Bool :=
  if b.length > a.length + 1 then false
  else if a.length = b.length then decide (pre a b < a.length) && decide (a.drop (pre a b + 1) = b.drop (pre a b + 1))
  else decide (a.drop (pre a b) = b.drop (pre a b + 1))
def once (a b : List Int) : Bool := if a.length > b.length then onceLe b a else onceLe a b

theorem once_le (a : List Int) : ∀ b, a.length ≤ b.length → (lv a b = 1 ↔ onceLe a b = true) := by
  induction a with
  | nil =>
    intro b _
    rw [lv_nil]
    match b with
    | [] => simp [onceLe, pre]
    | [y] => simp [onceLe, pre]
    | _ :: _ :: _ => simp [onceLe, pre]
  | cons x a ih =>
    intro b hb
    match b with
    | [] => simp at hb
    | y :: b =>
      simp only [List.length_cons] at hb
      by_cases h : x = y
      · subst h
        rw [lv_cons, ih b (by omega)]
        simp [onceLe, pre]
      · have hl := lv_len (x :: a) (y :: b)
        simp only [List.length_cons] at hl
        have hp : pre (x :: a) (y :: b) = 0 := by simp [pre, h]
        simp only [onceLe, hp, List.length_cons, Nat.zero_add, List.drop_zero, List.drop_succ_cons]
        by_cases hlong : b.length + 1 > a.length + 1 + 1
        · rw [if_pos hlong]
          constructor
          · intro h1; omega
          · intro h1; cases h1
        · rw [if_neg hlong]
          by_cases hsame : a.length = b.length
          · rw [if_pos (by omega)]
            simp only [Nat.zero_lt_succ, decide_true, Bool.true_and, decide_eq_true_eq]
            constructor
            · intro h1
              rw [lv_cons_cons, if_neg h] at h1
              have c : lv (x :: a) b = 0 ∨ lv a (y :: b) = 0 ∨ lv a b = 0 := by omega
              rcases c with c | c | c
              · have := congrArg List.length (lv_zero.1 c); simp at this; omega
              · have := congrArg List.length (lv_zero.1 c); simp at this; omega
              · exact lv_zero.1 c
            · intro h1
              subst h1
              have hne : lv (x :: a) (y :: a) ≠ 0 := fun e => h (by have := lv_zero.1 e; simp at this; exact this)
              have := lv_le (Ed.other x y (ed_refl a))
              omega
          · rw [if_neg (by omega)]
            simp only [decide_eq_true_eq]
            constructor
            · intro h1
              rw [lv_cons_cons, if_neg h] at h1
              have c : lv (x :: a) b = 0 ∨ lv a (y :: b) = 0 ∨ lv a b = 0 := by omega
              rcases c with c | c | c
              · exact lv_zero.1 c
              · have := congrArg List.length (lv_zero.1 c); simp at this; omega
              · have := congrArg List.length (lv_zero.1 c); omega
            · intro h1
              subst h1
              have := lv_le (Ed.put y (ed_refl (x :: a)))
              have h0 : lv (x :: a) (y :: x :: a) ≠ 0 := fun e => by have := congrArg List.length (lv_zero.1 e); simp at this
              omega
theorem once_iff (a b : List Int) : lv a b = 1 ↔ once a b = true := by
  unfold once
  split
  · rw [lv_comm]; exact once_le b a (by omega)
  · exact once_le a b (by omega)
end Go.Proofs.YtkgmikglifmenaaDoor.EM
