/-
  ReasonsAgainst, the program's and the reference's.
  Conditions: each lemma names its own.
-/
import Derived.Test.YthnilifepiihjaaReasS
namespace Go.Proofs.Ythnilifepiihjaa
open Go.RowKit
set_option linter.unusedVariables false

def raN (b : Bool) (r : Rul) (c : Cand) : Int := if b then wtTo (truths r c) 7 else 0
theorem rul_year {r : Rul} (h : rulB r = true) : 0 ≤ r.year ∧ r.year ≤ 10000 := by
  unfold rulB at h
  simp only [Bool.and_eq_true, decide_eq_true_eq] at h
  omega
theorem cand_born {c : Cand} (h : candB c = true) : 0 ≤ c.per.born ∧ c.per.born ≤ 10000 := by
  unfold candB at h
  rw [Bool.and_eq_true, perB_iff] at h
  omega
set_option maxRecDepth 100000 in
set_option maxHeartbeats 4000000 in
theorem spec_ReasonsAgainst {v : Value} {r : Rul} {c : Cand} {w : World} (h : Ruls w v r) (hp : CandFit c) :
    Calls Try.prog 9 #[v, candV c] w fun e w' => e = .returned (.tuple #[.int .i64 (raN (rcB r c) r c), .int .i64 (rcI (rcB r c))]) ∧ Below w.heap.size w w' := by
  have hr := Lib.hid h
  obtain ⟨vz, vj, rfl, hz, hj⟩ := h
  unfold candV
  have PA := Lib.hid (rulAt_new w r.year r.least r.most vz vj 33)
  have b0 : Below w.heap.size w (w.alloc (.cells #[.int .i64 r.year, .int .i64 r.least, .int .i64 r.most, vz, vj] 33)) := (Below.refl _ _).alloc (Nat.le_refl _) _
  generalize hw0 : w.alloc (.cells #[.int .i64 r.year, .int .i64 r.least, .int .i64 r.most, vz, vj] 33) = wA at *
  have CA := candAt_new wA c 37
  have b1 : Below wA.heap.size wA (wA.alloc (.cells #[.int .i64 c.per.number, .string c.per.first, .string c.per.last, .int .i64 c.per.born, .int .i64 c.per.zone, .bool c.citizen, .bool c.convicted, .bool c.fluent, .int .i64 c.job] 37)) := (Below.refl _ _).alloc (Nat.le_refl _) _
  replace PA := PA.out.below b1
  have BB := below_next b0 (Nat.le_refl _) b1
  subst hw0
  generalize hw1 : (w.alloc (.cells #[.int .i64 r.year, .int .i64 r.least, .int .i64 r.most, vz, vj] 33)).alloc (.cells #[.int .i64 c.per.number, .string c.per.first, .string c.per.last, .int .i64 c.per.born, .int .i64 c.per.zone, .bool c.citizen, .bool c.convicted, .bool c.fluent, .int .i64 c.job] 37) = wB at *
  have CN := candAt_new wB c 37
  have b2 : Below wB.heap.size wB (wB.alloc (.cells #[.int .i64 c.per.number, .string c.per.first, .string c.per.last, .int .i64 c.per.born, .int .i64 c.per.zone, .bool c.citizen, .bool c.convicted, .bool c.fluent, .int .i64 c.job] 37)) := (Below.refl _ _).alloc (Nat.le_refl _) _
  replace PA := Lib.hid (PA.below b2)
  replace CA := Lib.hid (CA.below b2)
  replace BB := below_next BB (Nat.le_refl _) b2
  subst hw1
  have eB : ((w.alloc (.cells #[.int .i64 r.year, .int .i64 r.least, .int .i64 r.most, vz, vj] 33)).alloc (.cells #[.int .i64 c.per.number, .string c.per.first, .string c.per.last, .int .i64 c.per.born, .int .i64 c.per.zone, .bool c.citizen, .bool c.convicted, .bool c.fluent, .int .i64 c.job] 37)).heap.size = w.heap.size + 1 + 1 := by simp
  rw [eB] at CN
  clear eB
  have HC := Lib.hid (spec_code (hr.out.below BB) hp CN)
  have HR := Lib.hid (fun (w' : World) (hb : Below w.heap.size w w') (y0 : 0 ≤ r.year ∧ r.year ≤ 10000) (y1 : 0 ≤ c.per.born ∧ c.per.born ≤ 10000) => spec_reasons (c := c) (hr.out.below hb) y0 y1)
  unfold candV at HR
  have eA : (w.alloc (.cells #[.int .i64 r.year, .int .i64 r.least, .int .i64 r.most, vz, vj] 33)).heap.size = w.heap.size + 1 := by simp
  rw [eA] at CA
  clear eA b0 b1 b2 CN hz hj hr
  cases hrc : rcB r c
  · rw [hrc] at HC
    clear hrc HR PA CA
    have hX : Hid (raN false r c = 0) := Lib.hid rfl
    have hI : Hid (rcI false = 1) := Lib.hid rfl
    generalize raN false r c = x at *
    generalize rcI false = y at *
    obtain rfl := hI.out
    obtain rfl := hX.out
    go_enter Try.func9, Try.ntmps9
    go_wp2_with fail
    refine HC.out.mono ?_
    rintro e w1 ⟨rfl, c1⟩
    replace BB := below_next BB (Nat.le_refl _) c1
    go_wp2_with fail
    go_ret2
    exact ⟨rfl, BB⟩
  · have h2 := hrc
    unfold rcB at h2
    rw [Bool.and_eq_true] at h2
    rw [hrc] at HC
    have HT := Lib.hid (fun (w' : World) (hb : Below w.heap.size w w') => HR.out w' hb (rul_year h2.2) (cand_born h2.1))
    clear hrc h2 HR
    have hX : Hid (raN true r c = wtTo (truths r c) 7) := Lib.hid rfl
    have hI : Hid (rcI true = 0) := Lib.hid rfl
    generalize raN true r c = x at *
    generalize rcI true = y at *
    generalize wtTo (truths r c) 7 = z at *
    obtain rfl := hI.out
    obtain rfl := hX.out
    go_enter Try.func9, Try.ntmps9
    go_wp2_with fail
    refine HC.out.mono ?_
    rintro e w1 ⟨rfl, c1⟩
    replace BB := below_next BB (Nat.le_refl _) c1
    obtain ⟨_, p0, p1, p2, p3, p4⟩ := PA.out.below c1
    obtain ⟨⟨_, d0, d1, d2, d3, d4⟩, d5, d6, d7, d8⟩ := CA.below c1
    clear CA c1 HC
    go_wp2_with fail
    refine (HT.out _ BB).mono ?_
    rintro e w2 ⟨rfl, c2⟩
    replace BB := below_next BB (Nat.le_refl _) c2
    clear p0 p1 p2 p3 p4 d0 d1 d2 d3 d4 d5 d6 d7 d8 c2
    go_wp2_with fail
    go_ret2
    exact ⟨rfl, BB⟩
set_option maxRecDepth 100000 in
set_option maxHeartbeats 4000000 in
theorem impl_ReasonsAgainst {v : Value} {r : Rul} {c : Cand} {w : World} (h : Ruls w v r) (hp : CandFit c) :
    Calls Try.prog 12 #[v, candV c] w fun e w' => e = .returned (.tuple #[.int .i64 (raN (rcB r c) r c), .int .i64 (rcI (rcB r c))]) ∧ Below w.heap.size w w' := by
  have hr := Lib.hid h
  obtain ⟨vz, vj, rfl, hz, hj⟩ := h
  unfold candV
  have PA := Lib.hid (rulAt_new w r.year r.least r.most vz vj 33)
  have b0 : Below w.heap.size w (w.alloc (.cells #[.int .i64 r.year, .int .i64 r.least, .int .i64 r.most, vz, vj] 33)) := (Below.refl _ _).alloc (Nat.le_refl _) _
  generalize hw0 : w.alloc (.cells #[.int .i64 r.year, .int .i64 r.least, .int .i64 r.most, vz, vj] 33) = wA at *
  have CA := candAt_new wA c 37
  have b1 : Below wA.heap.size wA (wA.alloc (.cells #[.int .i64 c.per.number, .string c.per.first, .string c.per.last, .int .i64 c.per.born, .int .i64 c.per.zone, .bool c.citizen, .bool c.convicted, .bool c.fluent, .int .i64 c.job] 37)) := (Below.refl _ _).alloc (Nat.le_refl _) _
  replace PA := Lib.hid (PA.out.below b1)
  have BB := below_next b0 (Nat.le_refl _) b1
  subst hw0
  have eA : (w.alloc (.cells #[.int .i64 r.year, .int .i64 r.least, .int .i64 r.most, vz, vj] 33)).heap.size = w.heap.size + 1 := by simp
  rw [eA] at CA
  replace CA := Lib.hid CA
  clear eA b0 b1 hz hj
  have HA := Lib.hid (impl_AreRules (hr.out.below BB))
  have HI := Lib.hid (fun w => impl_IsCandidate c hp w)
  have HR := Lib.hid (fun (w' : World) (hb : Below w.heap.size w w') (y0 : 0 ≤ r.year ∧ r.year ≤ 10000) (y1 : 0 ≤ c.per.born ∧ c.per.born ≤ 10000) => impl_reasons (c := c) (hr.out.below hb) y0 y1)
  unfold candV at HI HR
  have HX : Hid (rcB r c = (candB c && rulB r)) := Lib.hid rfl
  have hXn : Hid (raN false r c = 0) := Lib.hid rfl
  have hXy : Hid (raN true r c = wtTo (truths r c) 7) := Lib.hid rfl
  have hy := Lib.hid (@rul_year r)
  have hb := Lib.hid (@cand_born c)
  generalize rcB r c = rc at *
  generalize wtTo (truths r c) 7 = z at *
  generalize rulB r = rb at *
  generalize candB c = cb at *
  cases rb
  · obtain rfl : rc = false := by rw [HX.out]; simp
    generalize raN false r c = x at *
    obtain rfl := hXn.out
    go_enter Try.func12, Try.ntmps12
    go_wp2_with fail
    refine HA.out.mono ?_
    rintro e w1 ⟨rfl, c1⟩
    replace BB := below_next BB (Nat.le_refl _) c1
    go_wp2_with fail
    go_ret2
    exact ⟨rfl, BB⟩
  · cases cb
    · obtain rfl : rc = false := by rw [HX.out]; simp
      generalize raN false r c = x at *
      obtain rfl := hXn.out
      go_enter Try.func12, Try.ntmps12
      go_wp2_with fail
      refine HA.out.mono ?_
      rintro e w1 ⟨rfl, c1⟩
      replace BB := below_next BB (Nat.le_refl _) c1
      obtain ⟨⟨_, d0, d1, d2, d3, d4⟩, d5, d6, d7, d8⟩ := CA.out.below c1
      clear c1
      go_wp2_with fail
      refine (HI.out _).mono ?_
      rintro e w2 ⟨rfl, c2⟩
      replace BB := below_next BB (Nat.le_refl _) c2
      clear d0 d1 d2 d3 d4 d5 d6 d7 d8 c2
      go_wp2_with fail
      go_ret2
      exact ⟨rfl, BB⟩
    · obtain rfl : rc = true := by rw [HX.out]; simp
      have HT := Lib.hid (fun (w' : World) (b : Below w.heap.size w w') => HR.out w' b (hy.out rfl) (hb.out rfl))
      clear HR hy hb hXn
      generalize raN true r c = x at *
      obtain rfl := hXy.out
      go_enter Try.func12, Try.ntmps12
      go_wp2_with fail
      refine HA.out.mono ?_
      rintro e w1 ⟨rfl, c1⟩
      replace BB := below_next BB (Nat.le_refl _) c1
      replace PA := Lib.hid (PA.out.below c1)
      replace CA := Lib.hid (CA.out.below c1)
      obtain ⟨⟨_, d0, d1, d2, d3, d4⟩, d5, d6, d7, d8⟩ := CA.out
      clear c1
      go_wp2_with fail
      refine (HI.out _).mono ?_
      rintro e w2 ⟨rfl, c2⟩
      replace BB := below_next BB (Nat.le_refl _) c2
      clear d0 d1 d2 d3 d4 d5 d6 d7 d8
      obtain ⟨⟨_, d0, d1, d2, d3, d4⟩, d5, d6, d7, d8⟩ := CA.out.below c2
      obtain ⟨_, p0, p1, p2, p3, p4⟩ := PA.out.below c2
      clear c2
      go_wp2_with fail
      refine (HT.out _ BB).mono ?_
      rintro e w3 ⟨rfl, c3⟩
      replace BB := below_next BB (Nat.le_refl _) c3
      clear p0 p1 p2 p3 p4 d0 d1 d2 d3 d4 d5 d6 d7 d8 c3
      go_wp2_with fail
      go_ret2
      exact ⟨rfl, BB⟩
end Go.Proofs.Ythnilifepiihjaa
