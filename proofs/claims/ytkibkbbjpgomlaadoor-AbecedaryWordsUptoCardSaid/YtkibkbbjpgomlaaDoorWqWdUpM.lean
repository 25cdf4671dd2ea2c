/-
  WdUpM.
-/
import Derived.Test.YtkibkbbjpgomlaaDoorWqWdPkM
import Derived.Test.YtkibkbbjpgomlaaDoorWqWdRd
namespace Go.Proofs.YtkibkbbjpgomlaaDoor.F
open Go.RowKit
open Aid L LM
open W (putU putU_ten RdIs)
set_option linter.unusedSimpArgs false
set_option linter.unusedVariables false

def By (l : List Int) : Prop := ∀ x ∈ l, 0 ≤ x ∧ x ≤ 255
theorem By.app {a b : List Int} (ha : By a) (hb : By b) : By (a ++ b) := fun x hx => by
  rcases List.mem_append.1 hx with h | h
  · exact ha x h
  · exact hb x h
theorem By.right {a b : List Int} (h : By (a ++ b)) : By b := fun x hx => h x (List.mem_append_right _ hx)
theorem putU_by : ∀ (m n : Nat), n ≤ m → By (putU n)
  | m, n, h => by
    by_cases hb : 128 ≤ n
    · rw [W.putU_big hb]
      intro x hx
      rcases List.mem_cons.1 hx with rfl | hx
      · omega
      · cases m with
        | zero => omega
        | succ m => exact putU_by m (n / 128) (by omega) x hx
    · rw [W.putU_small (by omega)]
      intro x hx
      rw [List.mem_singleton] at hx
      rw [hx]; omega
theorem by_put (n : Nat) : By (putU n) := putU_by n n (Nat.le_refl _)
theorem arcsB_by (i : Nat) : ∀ (l : List ArcM) (lab : Int), By (arcsB i lab l)
  | [], _ => fun x hx => by cases hx
  | a :: l, lab => by
    rw [arcsB]
    exact ((by_put _).app ((by_put _).app (by_put _))).app (arcsB_by i l a.label)
theorem stB_by (i : Nat) (s : StM) : By (stB i s) := by
  unfold stB headB
  refine By.app ?_ (arcsB_by i _ _)
  split
  · exact (by_put _).app (by_put _)
  · exact by_put _
theorem stsB_by : ∀ (l : List StM) (i : Nat), By (stsB i l)
  | [], _ => fun x hx => by cases hx
  | s :: l, i => by rw [stsB]; exact (stB_by i s).app (stsB_by l (i + 1))
theorem packF_by (B : Int) (S : List StM) : By (packF B S) := (by_put _).app ((by_put _).app (stsB_by _ _))
/-- a number is read off -/
theorem uint_put (b0 p n : Nat) (t : List Int) (most : Int) (w : World) (h : RdIs b0 w p (putU n ++ t) 0) (hB : By t) (hn : n < 18446744073709551616) (hm : (n : Int) ≤ most) :
    Calls Tryd.prog 21 #[.pointer (some ⟨p, 0, none⟩), .int .u64 most] w fun e w' => e = .returned (.int .u64 n) ∧ RdIs b0 w' p t 0 ∧ Turn (fun k => k = p) w w' := by
  have := W.uint_any b0 p (putU n ++ t) 0 most w h ((by_put n).app hB) (by omega)
  rw [W.uintF_put hn hm] at this
  exact this
set_option maxRecDepth 100000 in
theorem left_any (b0 p : Nat) (l : List Int) (x : Int) (w : World) (h : RdIs b0 w p l x) : Calls Tryd.prog 40 #[.pointer (some ⟨p, 0, none⟩)] w fun e w' => e = .returned (.int .i64 l.length) ∧ w' = w := by
  obtain ⟨hb0, v, hB, hI, hC, hn⟩ := h
  obtain ⟨c0, c1, c2, c3⟩ := W.rd_cells hB
  obtain ⟨a, c, rfl⟩ := hI.form
  clear hI hB hC hn
  go_enter Tryd.func40, Tryd.ntmps40
  go_wp2_with fail
  go_ret
  exact ⟨rfl, rfl⟩
set_option maxRecDepth 100000 in
theorem end_nil (b0 p : Nat) (w : World) (h : RdIs b0 w p [] 0) : Calls Tryd.prog 24 #[.pointer (some ⟨p, 0, none⟩)] w fun e w' => e = .returned (.int .i64 0) ∧ w' = w := by
  obtain ⟨hb0, v, hB, hI, hC, hn⟩ := h
  obtain ⟨c0, c1, c2, c3⟩ := W.rd_cells hB
  obtain ⟨a, c, rfl⟩ := hI.form
  simp only [List.length_nil] at c0
  clear hI hB hC hn
  go_enter Tryd.func24, Tryd.ntmps24
  go_wp2_with fail
  go_ret
  exact ⟨rfl, rfl⟩
end Go.Proofs.YtkibkbbjpgomlaaDoor.F
