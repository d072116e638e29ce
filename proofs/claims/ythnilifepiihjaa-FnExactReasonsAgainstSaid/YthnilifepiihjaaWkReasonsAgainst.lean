/-
  The walk of FnExactReasonsAgainst. Conditions: none but that the values read as rules and a candidate.
-/
import Derived.Test.YthnilifepiihjaaReasR
import Derived.Deep.RegionHeld3
namespace Go.Proofs.Ythnilifepiihjaa
open Go.RowKit
set_option linter.unusedVariables false

theorem rulS {W0 w' : World} {g1 g2 : Nat} {r : Rul} {a b c d : Value} (h : RulAt W0 g1 r.year r.least r.most a b) (h2 : RulAt W0 g2 r.year r.least r.most c d) (k : Below W0.heap.size W0 w') :
    w'.cell? ⟨g1, 0, none⟩ = some (.int .i64 r.year) ∧ w'.cell? ⟨g1, 1, none⟩ = some (.int .i64 r.least) ∧ w'.cell? ⟨g1, 2, none⟩ = some (.int .i64 r.most) ∧ w'.cell? ⟨g1, 3, none⟩ = some (a) ∧ w'.cell? ⟨g1, 4, none⟩ = some (b) ∧ w'.cell? ⟨g2, 0, none⟩ = some (.int .i64 r.year) ∧ w'.cell? ⟨g2, 1, none⟩ = some (.int .i64 r.least) ∧ w'.cell? ⟨g2, 2, none⟩ = some (.int .i64 r.most) ∧ w'.cell? ⟨g2, 3, none⟩ = some (c) ∧ w'.cell? ⟨g2, 4, none⟩ = some (d) ∧ Below W0.heap.size W0 w' := by
  obtain ⟨_, c0, c1, c2, c3, c4⟩ := h.below k
  obtain ⟨_, d0, d1, d2, d3, d4⟩ := h2.below k
  exact ⟨c0, c1, c2, c3, c4, d0, d1, d2, d3, d4, k⟩
theorem heldR {W0 w' : World} (g1 g2 : Nat) (r : Rul) (a b c d : Value) (h : w'.cell? ⟨g1, 0, none⟩ = some (.int .i64 r.year) ∧ w'.cell? ⟨g1, 1, none⟩ = some (.int .i64 r.least) ∧ w'.cell? ⟨g1, 2, none⟩ = some (.int .i64 r.most) ∧ w'.cell? ⟨g1, 3, none⟩ = some (a) ∧ w'.cell? ⟨g1, 4, none⟩ = some (b) ∧ w'.cell? ⟨g2, 0, none⟩ = some (.int .i64 r.year) ∧ w'.cell? ⟨g2, 1, none⟩ = some (.int .i64 r.least) ∧ w'.cell? ⟨g2, 2, none⟩ = some (.int .i64 r.most) ∧ w'.cell? ⟨g2, 3, none⟩ = some (c) ∧ w'.cell? ⟨g2, 4, none⟩ = some (d) ∧ Below W0.heap.size W0 w') : Below W0.heap.size W0 w' := h.2.2.2.2.2.2.2.2.2.2
theorem rcS {W0 w' : World} {g1 g2 : Nat} {r : Rul} {c : Cand} {a b : Value} (h : RulAt W0 g1 r.year r.least r.most a b) (h2 : CandAt W0 g2 c) (k : Below W0.heap.size W0 w') :
    w'.cell? ⟨g1, 0, none⟩ = some (.int .i64 r.year) ∧ w'.cell? ⟨g1, 1, none⟩ = some (.int .i64 r.least) ∧ w'.cell? ⟨g1, 2, none⟩ = some (.int .i64 r.most) ∧ w'.cell? ⟨g1, 3, none⟩ = some (a) ∧ w'.cell? ⟨g1, 4, none⟩ = some (b) ∧ w'.cell? ⟨g2, 0, none⟩ = some (.int .i64 c.per.number) ∧ w'.cell? ⟨g2, 1, none⟩ = some (.string c.per.first) ∧ w'.cell? ⟨g2, 2, none⟩ = some (.string c.per.last) ∧ w'.cell? ⟨g2, 3, none⟩ = some (.int .i64 c.per.born) ∧ w'.cell? ⟨g2, 4, none⟩ = some (.int .i64 c.per.zone) ∧ w'.cell? ⟨g2, 5, none⟩ = some (.bool c.citizen) ∧ w'.cell? ⟨g2, 6, none⟩ = some (.bool c.convicted) ∧ w'.cell? ⟨g2, 7, none⟩ = some (.bool c.fluent) ∧ w'.cell? ⟨g2, 8, none⟩ = some (.int .i64 c.job) ∧ Below W0.heap.size W0 w' := by
  obtain ⟨_, c0, c1, c2, c3, c4⟩ := h.below k
  obtain ⟨⟨_, d0, d1, d2, d3, d4⟩, d5, d6, d7, d8⟩ := h2.below k
  exact ⟨c0, c1, c2, c3, c4, d0, d1, d2, d3, d4, d5, d6, d7, d8, k⟩
theorem rcH {W0 w' : World} (g1 g2 : Nat) (r : Rul) (c : Cand) (a b : Value) (h : w'.cell? ⟨g1, 0, none⟩ = some (.int .i64 r.year) ∧ w'.cell? ⟨g1, 1, none⟩ = some (.int .i64 r.least) ∧ w'.cell? ⟨g1, 2, none⟩ = some (.int .i64 r.most) ∧ w'.cell? ⟨g1, 3, none⟩ = some (a) ∧ w'.cell? ⟨g1, 4, none⟩ = some (b) ∧ w'.cell? ⟨g2, 0, none⟩ = some (.int .i64 c.per.number) ∧ w'.cell? ⟨g2, 1, none⟩ = some (.string c.per.first) ∧ w'.cell? ⟨g2, 2, none⟩ = some (.string c.per.last) ∧ w'.cell? ⟨g2, 3, none⟩ = some (.int .i64 c.per.born) ∧ w'.cell? ⟨g2, 4, none⟩ = some (.int .i64 c.per.zone) ∧ w'.cell? ⟨g2, 5, none⟩ = some (.bool c.citizen) ∧ w'.cell? ⟨g2, 6, none⟩ = some (.bool c.convicted) ∧ w'.cell? ⟨g2, 7, none⟩ = some (.bool c.fluent) ∧ w'.cell? ⟨g2, 8, none⟩ = some (.int .i64 c.job) ∧ Below W0.heap.size W0 w') : Below W0.heap.size W0 w' := h.2.2.2.2.2.2.2.2.2.2.2.2.2.2
set_option maxRecDepth 100000 in
set_option maxHeartbeats 8000000 in
theorem wk_FnExactReasonsAgainst {v : Value} {r : Rul} {c : Cand} {w : World} (h : Ruls w v r) (hp : CandFit c) :
    Calls Try.prog 3 #[v, candV c] w fun e w' => e = .returned (.bool true) ∧ Below w.heap.size w w' := by
  have hr := Lib.hid h
  obtain ⟨vz, vj, rfl, hz, hj⟩ := h
  have PA := Lib.hid (rulAt_new w r.year r.least r.most vz vj 24)
  have b0 : Below w.heap.size w (w.alloc (.cells #[.int .i64 r.year, .int .i64 r.least, .int .i64 r.most, vz, vj] 24)) := (Below.refl _ _).alloc (Nat.le_refl _) _
  generalize hw0 : w.alloc (.cells #[.int .i64 r.year, .int .i64 r.least, .int .i64 r.most, vz, vj] 24) = wA at *
  have CA := candAt_new wA c 28
  have b1 : Below wA.heap.size wA (wA.alloc (.cells #[.int .i64 c.per.number, .string c.per.first, .string c.per.last, .int .i64 c.per.born, .int .i64 c.per.zone, .bool c.citizen, .bool c.convicted, .bool c.fluent, .int .i64 c.job] 28)) := (Below.refl _ _).alloc (Nat.le_refl _) _
  replace PA := Lib.hid (PA.out.below b1)
  have BB := below_next b0 (Nat.le_refl _) b1
  subst hw0
  have eA : (w.alloc (.cells #[.int .i64 r.year, .int .i64 r.least, .int .i64 r.most, vz, vj] 24)).heap.size = w.heap.size + 1 := by simp
  rw [eA] at CA
  replace CA := Lib.hid CA
  clear eA b0 b1 hz hj
  have ZC := Lib.hid (fun (left : Int) (h0 : 0 ≤ left) (h1 : left ≤ 1048576) (w : World) => szCandidate_c c hp left h0 h1 w)
  have TC := Lib.hid (fun (w : World) => toCandidate_c c w)
  have SC := Lib.hid (fun (v : Value) (w : World) (h : Ruls w v r) => spec_ReasonsAgainst h hp)
  have IC := Lib.hid (fun (v : Value) (w : World) (h : Ruls w v r) => impl_ReasonsAgainst h hp)
  unfold candV at *
  generalize raN (rcB r c) r c = x at *
  generalize rcI (rcB r c) = y at *
  go_enter Try.func3, Try.ntmps3
  go_wp2_with fail
  refine (szRules_c (hr.out.below BB) 1048576 (by omega) (by omega)).mono ?_
  rintro e w1 ⟨q, rfl, hq, b1⟩
  replace PA := Lib.hid (PA.out.below b1)
  replace CA := Lib.hid (CA.out.below b1)
  replace BB := below_next BB (Nat.le_refl _) b1
  rcases hq with rfl | ⟨q0, q1, hn1, hn2⟩
  · go_wp2_with fail
    go_ret
    exact ⟨rfl, BB⟩
  · clear b1
    have N1 := Lib.hid hn1
    have N2 := Lib.hid hn2
    clear hn1 hn2
    obtain ⟨⟨_, d0, d1, d2, d3, d4⟩, d5, d6, d7, d8⟩ := CA.out
    go_wp2_with fail
    clear d0 d1 d2 d3 d4 d5 d6 d7 d8
    refine (ZC.out _ q0 q1 _).mono ?_
    rintro e w2 ⟨rfl, b2⟩
    replace PA := Lib.hid (PA.out.below b2)
    replace CA := Lib.hid (CA.out.below b2)
    replace BB := below_next BB (Nat.le_refl _) b2
    clear b2 q0 q1
    generalize szP q c.per = q2 at *
    by_cases hq2 : q2 < 0
    · go_wp2_with fail
      go_ret
      exact ⟨rfl, BB⟩
    · have HH := Lib.hid (hr.out.below BB)
      obtain ⟨_, c0, c1, c2, c3, c4⟩ := PA.out
      obtain ⟨⟨_, d0, d1, d2, d3, d4⟩, d5, d6, d7, d8⟩ := CA.out
      go_wp2_with fail
      go_region_held3 (fun w' => w'.cell? ⟨w.heap.size, 0, none⟩ = some (.int .i64 r.year) ∧ w'.cell? ⟨w.heap.size, 1, none⟩ = some (.int .i64 r.least) ∧ w'.cell? ⟨w.heap.size, 2, none⟩ = some (.int .i64 r.most) ∧ w'.cell? ⟨w.heap.size, 3, none⟩ = some (vz) ∧ w'.cell? ⟨w.heap.size, 4, none⟩ = some (vj) ∧ w'.cell? ⟨w.heap.size + 1, 0, none⟩ = some (.int .i64 c.per.number) ∧ w'.cell? ⟨w.heap.size + 1, 1, none⟩ = some (.string c.per.first) ∧ w'.cell? ⟨w.heap.size + 1, 2, none⟩ = some (.string c.per.last) ∧ w'.cell? ⟨w.heap.size + 1, 3, none⟩ = some (.int .i64 c.per.born) ∧ w'.cell? ⟨w.heap.size + 1, 4, none⟩ = some (.int .i64 c.per.zone) ∧ w'.cell? ⟨w.heap.size + 1, 5, none⟩ = some (.bool c.citizen) ∧ w'.cell? ⟨w.heap.size + 1, 6, none⟩ = some (.bool c.convicted) ∧ w'.cell? ⟨w.heap.size + 1, 7, none⟩ = some (.bool c.fluent) ∧ w'.cell? ⟨w.heap.size + 1, 8, none⟩ = some (.int .i64 c.job) ∧ Below w2.heap.size w2 w')
        (first | exact rcS PA.out CA.out (by assumption) | exact rcS PA.out CA.out (Below.refl _ _).drew)
        (first
          | (go_at_call 10; refine (toRules_c (HH.out.below (rcH w.heap.size (w.heap.size + 1) r c _ _ (by assumption))) N1.out N2.out).mono ?_; rintro e w6 ⟨v6, rfl, i6, b6⟩; have b7 := below_next (rcH (W0 := w2) w.heap.size (w.heap.size + 1) r c _ _ (by assumption)) (Nat.le_refl _) b6)
          | (go_at_call 11; refine (TC.out _).mono ?_; rintro e w7 ⟨rfl, b8⟩; have b9 := below_next b7 (Nat.le_refl _) b8)
          | (go_at_call 9; refine (SC.out _ _ (i6.below b8)).mono ?_; rintro e w8 ⟨rfl, b10⟩; have b11 := below_next b9 (Nat.le_refl _) b10))
      have b12 := below_next b9 (Nat.le_refl _) b10
      replace PA := Lib.hid (PA.out.below b12)
      replace CA := Lib.hid (CA.out.below b12)
      replace BB := below_next BB (Nat.le_refl _) b12
      clear HH i6 b6 b7 b8 b9 b10 b11 b12 c0 c1 c2 c3 c4 d0 d1 d2 d3 d4 d5 d6 d7 d8
      have HH := Lib.hid (hr.out.below BB)
      obtain ⟨_, c0, c1, c2, c3, c4⟩ := PA.out
      go_wp2_with fail
      clear c0 c1 c2 c3 c4
      refine (toRules_c HH.out N1.out N2.out).mono ?_
      rintro e w4 ⟨v4, rfl, i4, b4⟩
      replace PA := Lib.hid (PA.out.below b4)
      replace CA := Lib.hid (CA.out.below b4)
      replace BB := below_next BB (Nat.le_refl _) b4
      obtain ⟨uz, uj, rfl, _, _⟩ := id i4
      obtain ⟨az, nz, cz, rfl, _⟩ := (‹Ints w4 uz r.zones›).parts
      obtain ⟨aj, nj, cj, rfl, _⟩ := (‹Ints w4 uj r.jobs›).parts
      have bx : Below w4.heap.size w4 (w4.alloc (.cells #[.int .i64 r.year, .int .i64 r.least, .int .i64 r.most, .slice az nz cz, .slice aj nj cj] 33)) := (Below.refl _ _).alloc (Nat.le_refl _) _
      have PX := rulAt_new w4 r.year r.least r.most (.slice az nz cz) (.slice aj nj cj) 33
      replace i4 := Lib.hid (i4.below bx)
      replace PA := PA.out.below bx
      replace CA := CA.out.below bx
      replace BB := below_next BB (Nat.le_refl _) bx
      clear b4 bx HH
      generalize hw5 : w4.alloc (.cells #[.int .i64 r.year, .int .i64 r.least, .int .i64 r.most, .slice az nz cz, .slice aj nj cj] 33) = w5 at PA CA PX i4 BB
      replace PA := Lib.hid PA
      replace CA := Lib.hid CA
      replace PX := Lib.hid PX
      obtain ⟨_, x0, x1, x2, x3, x4⟩ := PX.out
      obtain ⟨⟨_, d0, d1, d2, d3, d4⟩, d5, d6, d7, d8⟩ := CA.out
      replace hw5 := Lib.hid hw5
      go_wp2_with fail
      rw [hw5.out]
      go_region_held3 (fun w' => w'.cell? ⟨w4.heap.size, 0, none⟩ = some (.int .i64 r.year) ∧ w'.cell? ⟨w4.heap.size, 1, none⟩ = some (.int .i64 r.least) ∧ w'.cell? ⟨w4.heap.size, 2, none⟩ = some (.int .i64 r.most) ∧ w'.cell? ⟨w4.heap.size, 3, none⟩ = some (.slice az nz cz) ∧ w'.cell? ⟨w4.heap.size, 4, none⟩ = some (.slice aj nj cj) ∧ w'.cell? ⟨w.heap.size + 1, 0, none⟩ = some (.int .i64 c.per.number) ∧ w'.cell? ⟨w.heap.size + 1, 1, none⟩ = some (.string c.per.first) ∧ w'.cell? ⟨w.heap.size + 1, 2, none⟩ = some (.string c.per.last) ∧ w'.cell? ⟨w.heap.size + 1, 3, none⟩ = some (.int .i64 c.per.born) ∧ w'.cell? ⟨w.heap.size + 1, 4, none⟩ = some (.int .i64 c.per.zone) ∧ w'.cell? ⟨w.heap.size + 1, 5, none⟩ = some (.bool c.citizen) ∧ w'.cell? ⟨w.heap.size + 1, 6, none⟩ = some (.bool c.convicted) ∧ w'.cell? ⟨w.heap.size + 1, 7, none⟩ = some (.bool c.fluent) ∧ w'.cell? ⟨w.heap.size + 1, 8, none⟩ = some (.int .i64 c.job) ∧ Below w5.heap.size w5 w')
        (first | exact rcS PX.out CA.out (by assumption) | exact rcS PX.out CA.out (Below.refl _ _).drew)
        (first
          | (go_at_call 11; refine (TC.out _).mono ?_; rintro e w7 ⟨rfl, b8⟩; have b9 := below_next (rcH (W0 := w5) w4.heap.size (w.heap.size + 1) r c _ _ (by assumption)) (Nat.le_refl _) b8)
          | (go_at_call 12; refine (IC.out _ _ (i4.out.below b9)).mono ?_; rintro e w8 ⟨rfl, b10⟩; have b11 := below_next b9 (Nat.le_refl _) b10))
      have b12 := below_next b9 (Nat.le_refl _) b10
      replace PA := Lib.hid (PA.out.below b12)
      replace PX := Lib.hid (PX.out.below b12)
      replace i4 := Lib.hid (i4.out.below b12)
      replace BB := below_next BB (Nat.le_refl _) b12
      clear CA TC SC IC ZC b8 b9 b10 b11 b12 x0 x1 x2 x3 x4 d0 d1 d2 d3 d4 d5 d6 d7 d8 hw5
      have HH := Lib.hid (hr.out.below BB)
      obtain ⟨_, c0, c1, c2, c3, c4⟩ := PA.out
      obtain ⟨_, x0, x1, x2, x3, x4⟩ := PX.out
      go_wp2_with fail
      go_region_held3 (fun w' => w'.cell? ⟨w.heap.size, 0, none⟩ = some (.int .i64 r.year) ∧ w'.cell? ⟨w.heap.size, 1, none⟩ = some (.int .i64 r.least) ∧ w'.cell? ⟨w.heap.size, 2, none⟩ = some (.int .i64 r.most) ∧ w'.cell? ⟨w.heap.size, 3, none⟩ = some (vz) ∧ w'.cell? ⟨w.heap.size, 4, none⟩ = some (vj) ∧ w'.cell? ⟨w4.heap.size, 0, none⟩ = some (.int .i64 r.year) ∧ w'.cell? ⟨w4.heap.size, 1, none⟩ = some (.int .i64 r.least) ∧ w'.cell? ⟨w4.heap.size, 2, none⟩ = some (.int .i64 r.most) ∧ w'.cell? ⟨w4.heap.size, 3, none⟩ = some (.slice az nz cz) ∧ w'.cell? ⟨w4.heap.size, 4, none⟩ = some (.slice aj nj cj) ∧ Below w8.heap.size w8 w')
        (first | exact rulS PA.out PX.out (by assumption) | exact rulS PA.out PX.out (Below.refl _ _).drew)
        (first
          | (go_at_call 10; refine (toRules_c (HH.out.below (heldR w.heap.size w4.heap.size r _ _ _ _ (by assumption))) N1.out N2.out).mono ?_; rintro e w6 ⟨v6, rfl, i6, b6⟩; have b7 := below_next (heldR (W0 := w8) w.heap.size w4.heap.size r _ _ _ _ (by assumption)) (Nat.le_refl _) b6)
          | (go_at_call 13; refine (eqRules_same (i4.out.below b7) i6).mono ?_; rintro e w9 ⟨rfl, b8⟩; have b9 := below_next b7 (Nat.le_refl _) b8))
      have b10 := below_next b7 (Nat.le_refl _) b8
      replace BB := below_next BB (Nat.le_refl _) b10
      clear b6 b7 b8 b9 b10 i6 c0 c1 c2 c3 c4 x0 x1 x2 x3 x4
      go_wp2_with fail
      go_ret
      exact ⟨rfl, BB⟩
end Go.Proofs.Ythnilifepiihjaa
