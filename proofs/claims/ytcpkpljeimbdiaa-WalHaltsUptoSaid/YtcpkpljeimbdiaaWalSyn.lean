/-
  Sync of a log.
-/
import Derived.Test.YtcpkpljeimbdiaaWalGet
import Derived.Test.YtcpkpljeimbdiaaDskFit
import Derived.Deep.RegionHeld3
namespace Go.Proofs.Ytcpkpljeimbdiaa.W
open Go.RowKit
open Aid K
set_option linter.unusedSimpArgs false
set_option linter.unusedVariables false

def codeF (code e : Int) : Int := if code = 0 then e else code
/-- a call that asks the disk once -/
def OnceEnd (O : Nat → Prop) (g p : Nat) (V : Int → Array Value) (code e : Int) (st' : DSt) (w : World) (x : Ending) (w' : World) : Prop :=
  x = .returned (.int .i64 (codeF code e)) ∧ Blk w' g 77 (V (codeF code e)) ∧ Keeps (fun k => O k ∨ k = g) w w' ∧ ∃ O', DiskIs O' w' p st' ∧ ∀ k, O' k → O k ∨ (w.heap.size ≤ k ∧ k < w'.heap.size)
theorem keeps_mono {O O' : Nat → Prop} {w w' : World} (h : Keeps O w w') (hO : ∀ k, O k → O' k) : Keeps O' w w' := ⟨h.os, h.tape, h.output, h.size, fun k hk hn => h.block k hk (fun ho => hn (hO k ho)), h.rows⟩
theorem blk_ne {w : World} {g o : Nat} {T T' : TypeId} {cs ds : Array Value} (h : Blk w g T cs) (h' : Blk w o T' ds) (hT : T ≠ T') : o ≠ g := by
  rintro rfl
  unfold Blk at h h'
  rw [h] at h'
  cases h'
  exact hT rfl
set_option maxRecDepth 100000 in
set_option maxHeartbeats 2000000 in
theorem wsync_open (O : Nat → Prop) (g o p : Nat) (st : DSt) (R : Int) (i : Nat) (nu ix fu : Int) (rv : Value) (first : Int) (l old : Value) (next : Int) (w : World) (h : Blk w g 77 (walV (.pointer (some ⟨o, 0, none⟩)) p first l old next 0))
    (ho : Blk w o 96 #[.int .u64 nu, .int .u64 ix, .int .i64 fu, rv]) (hD : DiskIs O w p st) (hO : ∀ k, O k → k < w.heap.size) (hg : ¬ O g) (hog : ¬ O o) (hF : FitS st R i) (hi : i ≤ 4398046511103) (hR : R ≤ 9223372036854775807)
    (h0 : 0 ≤ nu) (h1 : 4 * nu + 1 < 18446744073709551616) :
    Calls Try.prog 29 #[.pointer (some ⟨g, 0, none⟩)] w (OnceEnd O g p (walV (.pointer (some ⟨o, 0, none⟩)) p first l old next) 0 (doE st 1 (4 * nu + 1) 0 []) (doS st 1 (4 * nu + 1) 0 []) w) := by
  obtain ⟨c0, c1, c2, c3, c4, c5, c6⟩ := blk7 h
  have d0 : w.cell? ⟨o, 0, none⟩ = some (.int .u64 nu) := ho.cell 0
  have hgl := Blk.lt h
  have hol := Blk.lt ho
  have hgo : ¬ O g := hg
  have hoo : ¬ O o := hog
  have hne : o ≠ g := blk_ne h ho (by decide)
  have HAR := Lib.hid (show ∀ w', Calls Try.prog 50 #[.int .u64 nu] w' fun e w2 => e = .returned (.int .u64 (4 * nu + 1)) ∧ w2 = w' from fun w' => area_any nu w' h0 h1)
  have HSY := Lib.hid (show ∀ w', Below w.heap.size w w' → w'.heap.size = w.heap.size → Calls Try.prog 10 #[.pointer (some ⟨p, 0, none⟩), .int .u64 (4 * nu + 1)] w' (DoEnd O p (doE st 1 (4 * nu + 1) 0 []) (doS st 1 (4 * nu + 1) 0 []) w') from fun w' hb hs => sync_do O p st R i (4 * nu + 1) 0 [] w' (hD.below hb) (fun k hk => by have := hO k hk; omega) hF hi hR (wf_u64 (by omega) h1))
  obtain ⟨E, hE⟩ : ∃ E, doE st 1 (4 * nu + 1) 0 [] = E := ⟨_, rfl⟩
  obtain ⟨st', hst⟩ : ∃ st', doS st 1 (4 * nu + 1) 0 [] = st' := ⟨_, rfl⟩
  rw [hE, hst] at HSY
  rw [hE, hst]
  have HH := Lib.hid h
  clear hE hst hD hO hF hi hR h0 h1 h ho hg hog
  go_enter Try.func29, Try.ntmps29
  go_wp2_with fail
  have hS0 : w.cell? ⟨g, 0, none⟩ = some (.pointer (some ⟨o, 0, none⟩)) ∧ w.cell? ⟨g, 1, none⟩ = some (.pointer (some ⟨p, 0, none⟩)) ∧ w.cell? ⟨o, 0, none⟩ = some (.int .u64 nu) := ⟨c0, c1, d0⟩
  go_region_held3 (fun w' => w'.cell? ⟨g, 0, none⟩ = some (.pointer (some ⟨o, 0, none⟩)) ∧ w'.cell? ⟨g, 1, none⟩ = some (.pointer (some ⟨p, 0, none⟩)) ∧ w'.cell? ⟨o, 0, none⟩ = some (.int .u64 nu)) (first | assumption) (first
    | (go_at_call 50; refine (HAR.out _).mono ?_; rintro e wz ⟨rfl, rfl⟩)
    | (go_at_call 10
       refine (HSY.out _ (Below.refl _ _).drew rfl).mono ?_
       rintro e wz ⟨rfl, hK, O', hD', hO'⟩
       have hBz : Blk wz g 77 (walV (.pointer (some ⟨o, 0, none⟩)) p first l old next 0) := (hK.block g hgl hgo).trans HH.out
       have hSz : wz.cell? ⟨g, 0, none⟩ = some (.pointer (some ⟨o, 0, none⟩)) ∧ wz.cell? ⟨g, 1, none⟩ = some (.pointer (some ⟨p, 0, none⟩)) ∧ wz.cell? ⟨o, 0, none⟩ = some (.int .u64 nu) := ⟨hBz.cell 0, hBz.cell 1, (hK.cell (p := ⟨o, 0, none⟩) hol hoo).trans d0⟩
       have HSZ := Lib.hid (And.intro hK (And.intro hD' (And.intro hO' hBz))))
    | (go_at_call 49
       refine (did_any g _ p first l old next 0 E _ HSZ.out.2.2.2).mono ?_
       rintro e w9 ⟨rfl, hB9, hK9, hs9⟩
       have hS9 : w9.cell? ⟨g, 0, none⟩ = some (.pointer (some ⟨o, 0, none⟩)) ∧ w9.cell? ⟨g, 1, none⟩ = some (.pointer (some ⟨p, 0, none⟩)) ∧ w9.cell? ⟨o, 0, none⟩ = some (.int .u64 nu) := ⟨hB9.cell 0, hB9.cell 1, (hK9.cell (p := ⟨o, 0, none⟩) (Nat.lt_of_lt_of_le hol HSZ.out.1.size) hne).trans hSz.2.2⟩
       have HB9 := Lib.hid (And.intro hB9 (And.intro hK9 hs9))
       clear hB9 hK9 hs9))
  all_goals
    have HALL := Lib.hid (And.intro HSZ.out HB9.out)
    clear HSZ HB9 hK hD' hO' hBz hSz hS9
    go_wp2_with fail
    go_ret
    obtain ⟨⟨hK, hD', hO', hBz⟩, hB9, hK9, hs9⟩ := HALL.out
    have hcf : codeF 0 E = E := if_pos rfl
    have hB10 : Blk w9 g 77 (walV (.pointer (some ⟨o, 0, none⟩)) p first l old next (codeF 0 E)) := by
      rw [hcf]
      simpa using hB9
    have hKw : Keeps (fun k => O k ∨ k = g) w wz := ⟨hK.os, hK.tape, hK.output, hK.size, fun k hk hn => hK.block k hk (fun ho => hn (.inl ho)), hK.rows⟩
    refine ⟨by rw [hcf]; rfl, hB10, hKw.trans hK9 (fun x hx => .inl (.inr hx)), O', hD'.keep hK9 (fun k hk e => ?_), fun k hk => ?_⟩
    · rcases hO' k hk with h1 | h1
      · exact hgo (e ▸ h1)
      · have h2 : w.heap.size ≤ k := h1.1
        omega
    · rcases hO' k hk with h1 | h1
      · exact .inl h1
      · have h2 : w.heap.size ≤ k := h1.1
        exact .inr ⟨h2, by omega⟩
/-- halted, or none is written -/
theorem wsync_still (g p : Nat) (ov : Value) (first : Int) (l old : Value) (next code : Int) (w : World) (h : Blk w g 77 (walV ov p first l old next code)) (hc : code ≠ 0 ∨ ov = .pointer none) (ho : ∃ a, ov = .pointer a) :
    Calls Try.prog 29 #[.pointer (some ⟨g, 0, none⟩)] w fun e w' => e = .returned (.int .i64 code) ∧ Below w.heap.size w w' := by
  obtain ⟨c0, c1, c2, c3, c4, c5, c6⟩ := blk7 h
  obtain ⟨a, rfl⟩ := ho
  by_cases hz : code = 0
  · subst hz
    obtain hn : Value.pointer a = .pointer none := hc.resolve_left (fun h => h rfl)
    cases hn
    go_enter Try.func29, Try.ntmps29
    go_wp2_with fail
    go_ret
    exact ⟨rfl, Below.refl _ _⟩
  · have hz1 : (code != 0) = true := by simpa using hz
    have hz2 : (code == 0) = false := by simpa using hz
    go_enter Try.func29, Try.ntmps29
    go_wp2_with fail
    go_ret
    exact ⟨rfl, Below.refl _ _⟩
end Go.Proofs.Ytcpkpljeimbdiaa.W
