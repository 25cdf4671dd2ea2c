/-
  The walk of lev.New.
-/
import Derived.Test.YtldohnolpojccaaDoorLevAlive
import Derived.Test.YtldohnolpojccaaDoorLetWord
namespace Go.Proofs.YtldohnolpojccaaDoor.V
open Go.RowKit
open LM EM Aid L E VM
set_option linter.unusedSimpArgs false
set_option linter.unusedVariables false

/-- may an automaton be made? -/
def rightB (s : ByteArray) (edits : Int) : Bool := wordB s && decide (0 ≤ edits ∧ edits ≤ 3)
theorem wordB_runes {s : ByteArray} (h : wordB s = true) : s.size ≤ 96 ∧ ∃ l, runes s.data.toList = some l ∧ 1 ≤ l.length ∧ l.length ≤ 24 := by
  unfold wordB at h
  cases hr : runes s.data.toList with
  | none => rw [hr] at h; simp at h
  | some l =>
    rw [hr] at h
    simp only [Bool.and_eq_true, decide_eq_true_eq] at h
    exact ⟨h.1, l, rfl, h.2.2⟩
theorem levA_setv (v v' : Value) (out : Nat) (f : Nat → Nat) : (levA v out f).setIfInBounds 0 v' = levA v' out f := by
  unfold levA
  rw [Array.setIfInBounds_append_left (by simp)]
  rfl
theorem levA_zero (out : Nat) : (#[.slice none 0 0, .int .u8 (out : Int), .int .u8 0, .int .u8 0, .int .u8 0, .int .u8 0, .int .u8 0, .int .u8 0, .int .u8 0, .int .u8 0, .int .u8 0, .int .u8 0, .int .u8 0, .int .u8 0, .int .u8 0, .int .u8 0, .int .u8 0, .int .u8 0, .int .u8 0, .int .u8 0, .int .u8 0, .int .u8 0, .int .u8 0, .int .u8 0, .int .u8 0, .int .u8 0, .int .u8 0] : Array Value) = levA (.slice none 0 0) out (fun _ => 0) := by
  have h : u8A 25 (fun _ => 0) = Array.replicate 25 (.int .u8 0) := by
    apply Array.ext
    · simp [u8A]
    · intro i h1 h2
      rw [u8A_at]; simp
  unfold levA
  rw [h]
  apply Array.ext'
  rw [Array.toList_append, Array.toList_replicate]
  simp only [List.replicate, List.cons_append, List.nil_append]

/-- what New hands back -/
def NewPost (W : World) (s : ByteArray) (edits : Int) (e : Ending) (w' : World) : Prop := Below W.heap.size W w' ∧
  ((rightB s edits = false ∧ e = .returned (.tuple #[.pointer none, .int .i64 110])) ∨
   (∃ (l : List Int) (out p : Nat), rightB s edits = true ∧ runes s.data.toList = some l ∧ (out : Int) = edits + 1 ∧ e = .returned (.tuple #[.pointer (some ⟨p, 0, none⟩), .int .i64 0]) ∧ IsLev w' p l out))

set_option maxRecDepth 100000 in
set_option maxHeartbeats 1000000 in
theorem new_any (s : ByteArray) (edits : Int) (w : World) (hs : (s.size : Int) ≤ 9223372036854775807) (T : Tab w) :
    Calls Tryd.prog 11 #[.string s, .int .i64 edits] w (NewPost w s edits) := by
  cases hw : wordB s
  · have HW := Lib.hid hw
    clear hw
    go_enter Tryd.func11, Tryd.ntmps11
    go_wp2_with fail
    refine (word_any s w hs T).mono ?_
    rintro e w1 ⟨rfl, hb1⟩
    rw [HW.out]
    go_wp2_with fail
    go_ret2
    exact ⟨hb1, .inl ⟨by simp [rightB, HW.out], rfl⟩⟩
  · by_cases h0 : edits < 0
    · have HW := Lib.hid hw
      clear hw
      go_enter Tryd.func11, Tryd.ntmps11
      go_wp2_with fail
      refine (word_any s w hs T).mono ?_
      rintro e w1 ⟨rfl, hb1⟩
      rw [HW.out]
      go_wp2_with fail
      go_ret2
      exact ⟨hb1, .inl ⟨by simp [rightB]; omega, rfl⟩⟩
    · by_cases h3 : 3 < edits
      · have HW := Lib.hid hw
        clear hw
        go_enter Tryd.func11, Tryd.ntmps11
        go_wp2_with fail
        refine (word_any s w hs T).mono ?_
        rintro e w1 ⟨rfl, hb1⟩
        rw [HW.out]
        go_wp2_with fail
        go_ret2
        exact ⟨hb1, .inl ⟨by simp [rightB]; omega, rfl⟩⟩
      · obtain ⟨h96, l, hl, hl1, hl2⟩ := wordB_runes hw
        obtain ⟨n, rfl⟩ : ∃ n : Nat, edits = n := ⟨edits.toNat, by omega⟩
        have hwn : IntKind.u8.wrap (n : Int) = (n : Int) := IntWalk.u8_in _ (by omega)
        obtain ⟨out, hout⟩ : ∃ m, n + 1 = m := ⟨_, rfl⟩
        have hwo : IntKind.u8.wrap ((n : Int) + 1) = (out : Int) := by rw [IntWalk.u8_in _ (by omega)]; omega
        have hn3 : (n : Int) ≤ 3 := by omega
        have hn3' : ¬ (3 : Int) < (n : Int) := by omega
        have hn0 : ¬ (n : Int) < 0 := by omega
        have HR : Hid (rightB s n = true) := by show rightB s n = true; unfold rightB; rw [hw]; simp; omega
        have HW := Lib.hid hw
        have HL := Lib.hid hl
        have HO := Lib.hid hout
        have hf := Lib.hid (fits_small (s := s) (by omega))
        clear hw h0 h3 hl hout
        go_enter Tryd.func11, Tryd.ntmps11
        go_wp2_with fail
        refine (word_any s w hs T).mono ?_
        rintro e w1 ⟨rfl, hb1⟩
        rw [HW.out]
        go_wp2_with (refine wpList_boxN _ (by rfl) _ _ rfl _ rfl ?_; intro w2 hB hb2 hs2; rw [levA_zero] at hB)
        have T2 : Tab w2 := (T.below hb1).below hb2
        have hbs1 := hb1.size
        refine (runes_any s w2 hs hf.out T2).mono ?_
        rintro e w3 ⟨hb3, ⟨hn, rfl⟩ | ⟨l', v, hl, rfl, hown⟩⟩
        · rw [HL.out] at hn; cases hn
        · rw [HL.out] at hl
          obtain rfl := Option.some.inj hl
          have hbs3 := hb3.size
          obtain ⟨g, hg⟩ : ∃ g, w1.heap.size = g := ⟨_, rfl⟩
          obtain ⟨b, hb⟩ : ∃ b, w2.heap.size = b := ⟨_, rfl⟩
          rw [hg] at hB hb2
          have hgb : g < b := by omega
          have hgw : w.heap.size ≤ g := by omega
          have hB3 := hB.below hb3 (by omega)
          have hbW : Below w.heap.size w w3 := hb1.trans ((hb2.trans (hb3.mono (by omega))).mono hgw)
          rw [hb] at hown
          have hb3s : b ≤ w3.heap.size := by omega
          clear hB hb2 hb3 hb1 hs2 hl
          simp only [hg]
          clear hg hb hbs1 hbs3
          obtain ⟨a0, c0, rfl⟩ : ∃ a c, v = .slice a l.length c := Ints.form (Ints.own hown (by omega))
          have hB4 := Blk.set hB3 0 (.slice a0 l.length c0)
          rw [levA_setv] at hB4
          have hown4 := ownsRow_setCell_below (a := ⟨g, 0, none⟩) hown hgb (.slice a0 l.length c0)
          have hbW4 : Below w.heap.size w (w3.setCell ⟨g, 0, none⟩ (.slice a0 l.length c0)) := hbW.setCell hgw _
          obtain ⟨w4, hw4⟩ : ∃ w4, w3.setCell ⟨g, 0, none⟩ (.slice a0 l.length c0) = w4 := ⟨_, rfl⟩
          have hold : w3.cell? ⟨g, 0, none⟩ = some (.slice none 0 0) := by rw [hB3.cell, levA_0]
          have hfr : w3.frozen? ⟨g, 0, none⟩ = false := hB3.free 0
          rw [hw4] at hB4 hown4 hbW4
          have cr : w4.cell? ⟨g, 0, none⟩ = some (.slice a0 l.length c0) := by rw [hB4.cell, levA_0]
          clear hB3 hbW hown hb3s
          go_wp2_with fail
          clear hold hfr hw4 cr
          go_loopw [38] (fun x wr => ∃ j : Nat, x = .int .i64 j ∧ j ≤ l.length + 1 ∧ Blk wr g 50 (levA (.slice a0 l.length c0) out (fun i => if i < j then out else 0)) ∧
              wr.ownsRow b 21 1 (.slice a0 l.length c0) l.length (l.map (.int .i32)) ∧ Below w.heap.size w wr)
            (fun x _ => l.length + 1 - (intOf x).toNat)
          case atStart => exact ⟨0, rfl, Nat.zero_le _, by simpa using hB4, hown4, hbW4⟩
          case round =>
            clear hB4 hown4 hbW4 T2
            obtain ⟨j, rfl, hj, hB, hown, hb⟩ := hrel
            by_cases hlast : (j : Int) < (l.length : Int) + 1
            · have co : wr.cell? ⟨g, 1, none⟩ = some (.int .u8 (out : Int)) := by rw [hB.cell, levA_1]
              have hold : wr.cell? ⟨g, 2 + j, none⟩ = some (.int .u8 ((if j < j then out else 0 : Nat) : Int)) := by rw [hB.cell, levA_2 _ _ _ _ (by omega)]
              have hfr : wr.frozen? ⟨g, 2 + j, none⟩ = false := hB.free _
              have hj25 : (j : Int) < 25 := by omega
              have t1 : (wr.setCell ⟨g, 2 + j, none⟩ (.int .u8 out)).drew.cell? ⟨g, 1, none⟩ = some (.int .u8 (out : Int)) := (far1 (by intro e; injection e; omega)).trans co
              have HB : Hid (Blk (wr.setCell ⟨g, 2 + j, none⟩ (.int .u8 out)).drew g 50 (levA (.slice a0 l.length c0) out (fun i => if i < j + 1 then out else 0))) := by
                have := Blk.set hB (2 + j) (.int .u8 (out : Int))
                rw [levA_set _ _ _ (fun i => if i < j + 1 then out else 0) j out (by omega) (by
                  intro i hi
                  by_cases e : i = j
                  · subst e; simp
                  · rw [if_neg e]; by_cases h' : i < j
                    · rw [if_pos h', if_pos (by omega)]
                    · rw [if_neg h', if_neg (by omega)])] at this
                exact this
              have hown2 : (wr.setCell ⟨g, 2 + j, none⟩ (.int .u8 out)).drew.ownsRow b 21 1 (.slice a0 l.length c0) l.length (l.map (.int .i32)) := owns_below (ownsRow_setCell_below hown hgb _) (Below.refl _ _).drew
              have hb2 : Below w.heap.size w (wr.setCell ⟨g, 2 + j, none⟩ (.int .u8 out)).drew := (Below.setCell hb (p := ⟨g, 2 + j, none⟩) hgw _).drew
              clear hB hown hb
              go_wp2_with fail
              go_region_held3 (fun w' => w'.cell? ⟨g, 1, none⟩ = some (.int .u8 (out : Int))) (first | go_keep) (fail)
              go_wp2_with fail
              exact ⟨⟨j + 1, by go_num, by omega, HB.out, hown2, hb2⟩, by simp [intOf]; omega⟩
            · have hje : j = l.length + 1 := by omega
              subst hje
              have HX : Hid (IsLev wr g l out) := by
                refine ⟨.slice a0 l.length c0, ?_, Ints.own hown (by omega), hl1, hl2, by have := HO.out; omega, by have := HO.out; omega⟩
                have e : u8A 25 (fun i => if i < l.length + 1 then out else 0) = u8A 25 (deadF out l.length) := u8A_ext (fun i hi => by
                  unfold deadF cutF
                  by_cases h' : i < l.length + 1
                  · rw [if_pos h', if_pos (by omega), Nat.min_self]
                  · rw [if_neg h', if_neg (by omega)])
                unfold levA at hB ⊢
                rw [← e]; exact hB
              clear hB hown
              go_wp2_with fail
              go_ret2
              exact ⟨hb, .inr ⟨l, out, g, HR.out, HL.out, by have := HO.out; omega, rfl, HX.out⟩⟩
end Go.Proofs.YtldohnolpojccaaDoor.V
