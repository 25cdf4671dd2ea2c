/-
  The walks of the reference's said, First and Runes: by definition, the rune whose writing a text begins with.
-/
import Derived.Test.YtkgmikglifmenaaDoorLetRunes
import Derived.Test.YtkgmikglifmenaaDoorLetRWrite
import Derived.Deep.RegionWith
namespace Go.Proofs.YtkgmikglifmenaaDoor.L
open Go.RowKit
open LM Aid
set_option linter.unusedSimpArgs false
set_option linter.unusedVariables false

/-- the number that so many bytes would say -/
def saidOf (n : Nat) : List UInt8 → Int
  | [] => 0
  | c :: t => if n = 1 then c.toNat else (t.take (n - 1)).foldl (fun r d => r * 64 + (d.toNat : Int) % 64) ((c.toNat : Int) % (if n = 2 then 32 else if n = 3 then 16 else 8))

theorem said_enc {r : Int} (h : scalar r = true) (t : List UInt8) : saidOf (enc r).length (enc r ++ t) = r := by
  have hs := scalar_iff.1 h
  have cases4 : r < 128 ∨ 128 ≤ r ∧ r < 2048 ∨ 2048 ≤ r ∧ r < 65536 ∨ 65536 ≤ r := by omega
  rcases cases4 with g | ⟨g0, g1⟩ | ⟨g0, g1⟩ | g0
  · rw [enc_1 (by omega) (by omega)]
    simp [saidOf]
    have := fun x => @by8_toNat x
    rw [by8_toNat (x := r) (by omega) (by omega)]
    
  · rw [enc_2 (by omega) (by omega)]
    simp [saidOf]
    have := fun x => @by8_toNat x
    rw [by8_toNat (x := 192 + r / 64) (by omega) (by omega), by8_toNat (x := 128 + r % 64) (by omega) (by omega)]
    omega
  · rw [enc_3 (by omega) (by omega)]
    simp [saidOf]
    have := fun x => @by8_toNat x
    rw [by8_toNat (x := 224 + r / 4096) (by omega) (by omega), by8_toNat (x := 128 + r / 64 % 64) (by omega) (by omega), by8_toNat (x := 128 + r % 64) (by omega) (by omega)]
    omega
  · rw [enc_4 (by omega) (by omega)]
    simp [saidOf]
    have := fun x => @by8_toNat x
    rw [by8_toNat (x := 240 + r / 262144) (by omega) (by omega), by8_toNat (x := 128 + r / 4096 % 64) (by omega) (by omega), by8_toNat (x := 128 + r / 64 % 64) (by omega) (by omega), by8_toNat (x := 128 + r % 64) (by omega) (by omega)]
    omega

set_option maxRecDepth 100000 in
set_option maxHeartbeats 1000000 in
theorem said_1 (s : ByteArray) (w : World) (hs : (s.size : Int) ≤ 9223372036854775807) (h2 : 1 ≤ (s.size : Int)) (c  : Int) (e0 : (s[0].toNat : Int) = c) (c0 : 0 ≤ c) (c2 : c < 256)
     :
    Calls Tryd.prog 26 #[.string s, .int .i64 1] w fun e w' => e = .returned (.int .i64 (c)) ∧ w = w' := by
  go_enter Tryd.func26, Tryd.ntmps26
  go_wp2_with fail
  go_ret
  exact ⟨rfl, rfl⟩

set_option maxRecDepth 100000 in
set_option maxHeartbeats 1000000 in
theorem said_2 (s : ByteArray) (w : World) (hs : (s.size : Int) ≤ 9223372036854775807) (h2 : 2 ≤ (s.size : Int)) (c d1 : Int) (e0 : (s[0].toNat : Int) = c) (c0 : 0 ≤ c) (c2 : c < 256)
    (e1 : (s[1].toNat : Int) = d1) (p1 : 0 ≤ d1) (q1 : d1 < 256) :
    Calls Tryd.prog 26 #[.string s, .int .i64 2] w fun e w' => e = .returned (.int .i64 ((c % 32) * 64 + d1 % 64)) ∧ w = w' := by
  go_enter Tryd.func26, Tryd.ntmps26
  go_wp2_with fail
  refine wp_loop_rounds 2 ?_
  rw [rounds_succ]
  go_wp2_with fail
  rw [rounds_succ]
  go_wp2_with fail
  go_ret
  exact ⟨rfl, rfl⟩

set_option maxRecDepth 100000 in
set_option maxHeartbeats 1000000 in
theorem said_3 (s : ByteArray) (w : World) (hs : (s.size : Int) ≤ 9223372036854775807) (h2 : 3 ≤ (s.size : Int)) (c d1 d2 : Int) (e0 : (s[0].toNat : Int) = c) (c0 : 0 ≤ c) (c2 : c < 256)
    (e1 : (s[1].toNat : Int) = d1) (p1 : 0 ≤ d1) (q1 : d1 < 256) (e2 : (s[2].toNat : Int) = d2) (p2 : 0 ≤ d2) (q2 : d2 < 256) :
    Calls Tryd.prog 26 #[.string s, .int .i64 3] w fun e w' => e = .returned (.int .i64 (((c % 16) * 64 + d1 % 64) * 64 + d2 % 64)) ∧ w = w' := by
  go_enter Tryd.func26, Tryd.ntmps26
  go_wp2_with fail
  refine wp_loop_rounds 3 ?_
  rw [rounds_succ]
  go_wp2_with fail
  rw [rounds_succ]
  go_wp2_with fail
  rw [rounds_succ]
  go_wp2_with fail
  go_ret
  exact ⟨rfl, rfl⟩

set_option maxRecDepth 100000 in
set_option maxHeartbeats 1000000 in
theorem said_4 (s : ByteArray) (w : World) (hs : (s.size : Int) ≤ 9223372036854775807) (h2 : 4 ≤ (s.size : Int)) (c d1 d2 d3 : Int) (e0 : (s[0].toNat : Int) = c) (c0 : 0 ≤ c) (c2 : c < 256)
    (e1 : (s[1].toNat : Int) = d1) (p1 : 0 ≤ d1) (q1 : d1 < 256) (e2 : (s[2].toNat : Int) = d2) (p2 : 0 ≤ d2) (q2 : d2 < 256) (e3 : (s[3].toNat : Int) = d3) (p3 : 0 ≤ d3) (q3 : d3 < 256) :
    Calls Tryd.prog 26 #[.string s, .int .i64 4] w fun e w' => e = .returned (.int .i64 ((((c % 8) * 64 + d1 % 64) * 64 + d2 % 64) * 64 + d3 % 64)) ∧ w = w' := by
  go_enter Tryd.func26, Tryd.ntmps26
  go_wp2_with fail
  refine wp_loop_rounds 4 ?_
  rw [rounds_succ]
  go_wp2_with fail
  rw [rounds_succ]
  go_wp2_with fail
  rw [rounds_succ]
  go_wp2_with fail
  rw [rounds_succ]
  go_wp2_with fail
  go_ret
  exact ⟨rfl, rfl⟩

theorem said_any (s : ByteArray) (n : Nat) (w : World) (hs : (s.size : Int) ≤ 9223372036854775807) (h1 : 1 ≤ n) (h4 : n ≤ 4) (hn : n ≤ s.size) :
    Calls Tryd.prog 26 #[.string s, .int .i64 n] w fun e w' => e = .returned (.int .i64 (saidOf n s.data.toList)) ∧ w = w' := by
  have hb : ∀ i (h : i < s.size), 0 ≤ (s[i].toNat : Int) ∧ (s[i].toNat : Int) < 256 := fun i h => by have := s[i].toNat_lt; omega
  have hcons : ∀ i (h : i < s.size), s.data.toList.drop i = s[i] :: s.data.toList.drop (i + 1) := fun i h => by
    rw [List.drop_eq_getElem_cons (by rw [len_at]; exact h)]; rfl
  have h0 : s.data.toList = s[0] :: s.data.toList.drop 1 := by have := hcons 0 (by omega); simpa using this
  match n, h1, h4, hn with
  | 1, _, _, hn =>
    refine (said_1 s w hs (by omega) _ rfl (hb 0 (by omega)).1 (hb 0 (by omega)).2).mono ?_
    rintro e w' ⟨rfl, rfl⟩
    refine ⟨?_, rfl⟩
    rw [h0]; rfl
  | 2, _, _, hn =>
    refine (said_2 s w hs (by omega) _ _ rfl (hb 0 (by omega)).1 (hb 0 (by omega)).2 rfl (hb 1 (by omega)).1 (hb 1 (by omega)).2).mono ?_
    rintro e w' ⟨rfl, rfl⟩
    refine ⟨?_, rfl⟩
    rw [h0, hcons 1 (by omega)]; simp [saidOf]
  | 3, _, _, hn =>
    refine (said_3 s w hs (by omega) _ _ _ rfl (hb 0 (by omega)).1 (hb 0 (by omega)).2 rfl (hb 1 (by omega)).1 (hb 1 (by omega)).2 rfl (hb 2 (by omega)).1 (hb 2 (by omega)).2).mono ?_
    rintro e w' ⟨rfl, rfl⟩
    refine ⟨?_, rfl⟩
    rw [h0, hcons 1 (by omega), hcons 2 (by omega)]; simp [saidOf]
  | 4, _, _, hn =>
    refine (said_4 s w hs (by omega) _ _ _ _ rfl (hb 0 (by omega)).1 (hb 0 (by omega)).2 rfl (hb 1 (by omega)).1 (hb 1 (by omega)).2 rfl (hb 2 (by omega)).1 (hb 2 (by omega)).2 rfl (hb 3 (by omega)).1 (hb 3 (by omega)).2).mono ?_
    rintro e w' ⟨rfl, rfl⟩
    refine ⟨?_, rfl⟩
    rw [h0, hcons 1 (by omega), hcons 2 (by omega), hcons 3 (by omega)]; simp [saidOf]

/-- what First tells -/
def RDecIs (s : ByteArray) (e : Ending) : Prop := e = .returned (.tuple #[.int .i64 (dec s.data.toList).1, .int .i64 ((dec s.data.toList).2 : Int)])
theorem RDecIs.mk {s : ByteArray} {x : Int} {n : Nat} {m : Int} (h : dec s.data.toList = (x, n)) (hm : m = n) : RDecIs s (.returned (.tuple #[.int .i64 x, .int .i64 m])) := by
  unfold RDecIs; rw [h, hm]
/-- so many bytes are no rune's writing -/
def Miss (l : List UInt8) (n : Nat) : Prop := scalar (saidOf n l) = true → enc (saidOf n l) ≠ l.take n
theorem hit_dec {l : List UInt8} {n : Nat} (h : scalar (saidOf n l) = true) (he : enc (saidOf n l) = l.take n) (hn : n ≤ l.length) : dec l = (saidOf n l, n) := by
  have h1 := dec_enc h (l.drop n)
  rw [he, List.take_append_drop] at h1
  rw [h1]; simp [hn]
theorem miss_dec {l : List UInt8} (h : ∀ n, 1 ≤ n → n ≤ 4 → n ≤ l.length → Miss l n) : dec l = (0, 0) := by
  refine dec_zero ?_
  by_cases hn : (dec l).2 = 0
  · exact hn
  exfalso
  obtain ⟨h1, h2, h3⟩ := dec_some (s := l) (r := (dec l).1) (n := (dec l).2) rfl hn
  have hs := said_enc h1 (l.drop (dec l).2)
  rw [← h3, ← h2] at hs
  have hl := enc_len (dec l).1
  have hle := dec_le l
  refine h (dec l).2 (by omega) (by omega) (by omega) (by rw [hs]; exact h1) ?_
  rw [hs]
  have ht := congrArg (List.take (dec l).2) h3
  have hz : (enc (dec l).1 ++ l.drop (dec l).2).take (dec l).2 = enc (dec l).1 := by
    apply List.take_left'; omega
  rw [hz] at ht; exact ht.symm
end Go.Proofs.YtkgmikglifmenaaDoor.L