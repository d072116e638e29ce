/-
  The walk of FnExactAreRules. Conditions: none but that the value reads as rules.
-/
import Derived.Test.YtljokafenjhbmaaRulCopy
import Derived.Deep.RegionHeld3
namespace Go.Proofs.Ytljokafenjhbmaa
open Go.RowKit
set_option linter.unusedVariables false

theorem rulS {W0 w' : World} {g1 g2 : Nat} {r : Rul} {a b c d : Value} (h : RulAt W0 g1 r.year r.least r.most a b) (h2 : RulAt W0 g2 r.year r.least r.most c d) (k : Below W0.heap.size W0 w') :
    w'.cell? ⟨g1, 0, none⟩ = some (.int .i64 r.year) ∧ w'.cell? ⟨g1, 1, none⟩ = some (.int .i64 r.least) ∧ w'.cell? ⟨g1, 2, none⟩ = some (.int .i64 r.most) ∧ w'.cell? ⟨g1, 3, none⟩ = some (a) ∧ w'.cell? ⟨g1, 4, none⟩ = some (b) ∧ w'.cell? ⟨g2, 0, none⟩ = some (.int .i64 r.year) ∧ w'.cell? ⟨g2, 1, none⟩ = some (.int .i64 r.least) ∧ w'.cell? ⟨g2, 2, none⟩ = some (.int .i64 r.most) ∧ w'.cell? ⟨g2, 3, none⟩ = some (c) ∧ w'.cell? ⟨g2, 4, none⟩ = some (d) ∧ Below W0.heap.size W0 w' := by
  obtain ⟨_, c0, c1, c2, c3, c4⟩ := h.below k
  obtain ⟨_, d0, d1, d2, d3, d4⟩ := h2.below k
  exact ⟨c0, c1, c2, c3, c4, d0, d1, d2, d3, d4, k⟩
theorem heldR {W0 w' : World} (g1 g2 : Nat) (r : Rul) (a b c d : Value) (h : w'.cell? ⟨g1, 0, none⟩ = some (.int .i64 r.year) ∧ w'.cell? ⟨g1, 1, none⟩ = some (.int .i64 r.least) ∧ w'.cell? ⟨g1, 2, none⟩ = some (.int .i64 r.most) ∧ w'.cell? ⟨g1, 3, none⟩ = some (a) ∧ w'.cell? ⟨g1, 4, none⟩ = some (b) ∧ w'.cell? ⟨g2, 0, none⟩ = some (.int .i64 r.year) ∧ w'.cell? ⟨g2, 1, none⟩ = some (.int .i64 r.least) ∧ w'.cell? ⟨g2, 2, none⟩ = some (.int .i64 r.most) ∧ w'.cell? ⟨g2, 3, none⟩ = some (c) ∧ w'.cell? ⟨g2, 4, none⟩ = some (d) ∧ Below W0.heap.size W0 w') : Below W0.heap.size W0 w' := h.2.2.2.2.2.2.2.2.2.2
set_option maxRecDepth 100000 in
set_option maxHeartbeats 4000000 in
theorem wk_FnExactAreRules {v : Value} {r : Rul} {w : World} (h : Ruls w v r) :
    Calls Try.prog 5 #[v] w fun e w' => e = .returned (.bool true) ∧ Below w.heap.size w w' := by
  have hr := Lib.hid h
  obtain ⟨vz, vj, rfl, hz, hj⟩ := h
  have PA := Lib.hid (rulAt_new w r.year r.least r.most vz vj 39)
  have BB : Below w.heap.size w (w.alloc (.cells #[.int .i64 r.year, .int .i64 r.least, .int .i64 r.most, vz, vj] 39)) := (Below.refl _ _).alloc (Nat.le_refl _) _
  clear hz hj
  go_enter Try.func5, Try.ntmps5
  go_wp2_with fail
  refine (szRules_c (hr.out.below BB) 1048576 (by omega) (by omega)).mono ?_
  rintro e w1 ⟨q, rfl, hq, b1⟩
  obtain ⟨cb, c0, c1, c2, c3, c4⟩ := PA.out.below b1
  replace PA := Lib.hid (PA.out.below b1)
  replace BB := below_next BB (Nat.le_refl _) b1
  rcases hq with rfl | ⟨q0, q1, hn1, hn2⟩
  · go_wp2_with fail
    go_ret
    exact ⟨rfl, BB⟩
  · clear b1
    have N1 := Lib.hid hn1
    have N2 := Lib.hid hn2
    clear hn1 hn2
    go_wp2_with fail
    clear c0 c1 c2 c3 c4
    refine (toRules_c (hr.out.below BB) N1.out N2.out).mono ?_
    rintro e w2 ⟨v2, rfl, i2, b2⟩
    replace PA := Lib.hid (PA.out.below b2)
    replace BB := below_next BB (Nat.le_refl _) b2
    go_wp2_with fail
    refine (spec_AreRules i2).mono ?_
    rintro e w3 ⟨rfl, b3⟩
    replace PA := Lib.hid (PA.out.below b3)
    obtain ⟨cb, c0, c1, c2, c3, c4⟩ := PA.out
    replace BB := below_next BB (Nat.le_refl _) b3
    clear i2 b2 b3
    go_wp2_with fail
    clear c0 c1 c2 c3 c4
    refine (toRules_c (hr.out.below BB) N1.out N2.out).mono ?_
    rintro e w4 ⟨v4, rfl, i4, b4⟩
    replace PA := Lib.hid (PA.out.below b4)
    replace BB := below_next BB (Nat.le_refl _) b4
    obtain ⟨uz, uj, rfl, _, _⟩ := id i4
    obtain ⟨az, nz, cz, rfl, _⟩ := (‹Ints w4 uz r.zones›).parts
    obtain ⟨aj, nj, cj, rfl, _⟩ := (‹Ints w4 uj r.jobs›).parts
    have bx : Below w4.heap.size w4 (w4.alloc (.cells #[.int .i64 r.year, .int .i64 r.least, .int .i64 r.most, .slice az nz cz, .slice aj nj cj] 42)) := (Below.refl _ _).alloc (Nat.le_refl _) _
    have PX := Lib.hid (rulAt_new w4 r.year r.least r.most (.slice az nz cz) (.slice aj nj cj) 42)
    replace i4 := Lib.hid (i4.below bx)
    replace PA := Lib.hid (PA.out.below bx)
    replace BB := below_next BB (Nat.le_refl _) bx
    clear b4 bx
    go_wp2_with fail
    refine (impl_AreRules i4.out).mono ?_
    rintro e w5 ⟨rfl, b5⟩
    replace i4 := Lib.hid (i4.out.below b5)
    replace PA := Lib.hid (PA.out.below b5)
    replace PX := Lib.hid (PX.out.below b5)
    replace BB := below_next BB (Nat.le_refl _) b5
    clear b5
    have HH := Lib.hid (hr.out.below BB)
    obtain ⟨cb, c0, c1, c2, c3, c4⟩ := PA.out
    obtain ⟨db, d0, d1, d2, d3, d4⟩ := PX.out
    generalize rulB r = rb at *
    go_wp2_with fail
    go_region_held3 (fun w' => w'.cell? ⟨w.heap.size, 0, none⟩ = some (.int .i64 r.year) ∧ w'.cell? ⟨w.heap.size, 1, none⟩ = some (.int .i64 r.least) ∧ w'.cell? ⟨w.heap.size, 2, none⟩ = some (.int .i64 r.most) ∧ w'.cell? ⟨w.heap.size, 3, none⟩ = some (vz) ∧ w'.cell? ⟨w.heap.size, 4, none⟩ = some (vj) ∧ w'.cell? ⟨w4.heap.size, 0, none⟩ = some (.int .i64 r.year) ∧ w'.cell? ⟨w4.heap.size, 1, none⟩ = some (.int .i64 r.least) ∧ w'.cell? ⟨w4.heap.size, 2, none⟩ = some (.int .i64 r.most) ∧ w'.cell? ⟨w4.heap.size, 3, none⟩ = some (.slice az nz cz) ∧ w'.cell? ⟨w4.heap.size, 4, none⟩ = some (.slice aj nj cj) ∧ Below w5.heap.size w5 w')
      (first | exact rulS PA.out PX.out (by assumption) | exact rulS PA.out PX.out (Below.refl _ _).drew)
      (first
        | (go_at_call 20; refine (toRules_c (HH.out.below (heldR w.heap.size w4.heap.size r _ _ _ _ (by assumption))) N1.out N2.out).mono ?_; rintro e w6 ⟨v6, rfl, i6, b6⟩; have b7 := below_next (heldR (W0 := w5) w.heap.size w4.heap.size r _ _ _ _ (by assumption)) (Nat.le_refl _) b6)
        | (go_at_call 22; refine (eqRules_same (i4.out.below b7) i6).mono ?_; rintro e w8 ⟨rfl, b8⟩; have b9 := below_next (heldR (W0 := w5) w.heap.size w4.heap.size r _ _ _ _ (by assumption)) (Nat.le_refl _) b8))
    replace BB := below_next BB (Nat.le_refl _) b9
    clear b6 b7 b8 b9 i6 c0 c1 c2 c3 c4 d0 d1 d2 d3 d4
    go_wp2_with fail
    go_ret
    exact ⟨rfl, BB⟩
end Go.Proofs.Ytljokafenjhbmaa
