/-
  WdEnd.
-/
import Derived.Test.YtkibkbbjpgomlaaDoorWqWdAll
namespace Go.Proofs.YtkibkbbjpgomlaaDoor.F
open Go.RowKit Go.Shelf Go.Maps
open Aid L LM

theorem machR_make (l : List Wd) (h : buildE l = 0) : MachR (makeF l).1 (makeF l).2 := by
  by_cases hl : l = []
  · left; unfold makeF; rw [if_pos hl]; exact ⟨rfl, rfl⟩
  · exact .inr (make_mach l h hl)
theorem allW_len (B : Int) (S : List StM) : (allW B S).length = if S.length = 0 then 0 else cntS S (S.length - 1) := by
  unfold allW
  split
  · rfl
  · rw [outF_len]; rfl
theorem bytesW_runes {s : ByteArray} (h : wordB s = true) : bytesW (runesOf s) = s := by
  obtain ⟨r, _, e, _, he, _⟩ := runes_word h
  apply ByteArray.ext
  unfold bytesW
  dsimp only
  rw [e, ← he]
theorem allW_make (l : List Wd) (h : buildE l = 0) : allW (makeF l).1 (makeF l).2 = l := by
  by_cases hl : l = []
  · subst hl
    unfold makeF allW
    simp
  · obtain ⟨_, r2, _, r4, r5⟩ := make_rep l h hl
    unfold allW
    rw [if_neg (by omega), r2, r5]
    have hw : ∀ y ∈ l, wordB y.1 = true := by
      unfold buildE at h
      split at h
      · omega
      obtain ⟨_, g2, _⟩ := errF_sorted l none h (by simp)
      intro y hy
      exact (g2 y hy).1
    unfold outF lv
    rw [List.map_map]
    obtain ⟨b, hb⟩ : ∃ b, low (restsF l) = b := ⟨_, rfl⟩
    rw [hb]
    unfold restsF
    rw [List.map_map]
    refine (List.map_congr_left (g := id) fun y hy => ?_).trans (List.map_id _)
    show ((⟨#[]⟩ : ByteArray) ++ bytesW (runesOf y.1), b + (y.2 - b)) = y
    rw [bytesW_runes (hw y hy)]
    have e : (⟨#[]⟩ : ByteArray) ++ y.1 = y.1 := by
      apply ByteArray.ext
      rw [ByteArray.data_append]
      simp
    rw [e]
    exact Prod.ext rfl (by dsimp only; omega)
end Go.Proofs.YtkibkbbjpgomlaaDoor.F
