/-
  Candidates by value.
  Conditions: each lemma names its own.
-/
import Derived.Test.YthnilifepiihjaaPerArg
namespace Go.Proofs.Ythnilifepiihjaa
open Go.RowKit Go.ChangeShapes Go.WideShapes Go.Deep

/-- A candidate, as data. -/
structure Cand where
  per : Per
  citizen : Bool
  convicted : Bool
  fluent : Bool
  job : Int
def candC (c : Cand) : List Value := [.int .i64 c.per.number, .string c.per.first, .string c.per.last, .int .i64 c.per.born, .int .i64 c.per.zone, .bool c.citizen, .bool c.convicted, .bool c.fluent, .int .i64 c.job]
def candV (c : Cand) : Value := .agg #[.int .i64 c.per.number, .string c.per.first, .string c.per.last, .int .i64 c.per.born, .int .i64 c.per.zone, .bool c.citizen, .bool c.convicted, .bool c.fluent, .int .i64 c.job]
structure CandFit (c : Cand) : Prop where
  per : PerFit c.per
  job : -9223372036854775808 ≤ c.job ∧ c.job ≤ 9223372036854775807

section
variable {H : Type} {enc : TypeId × Value → H} {w : World} {sp : Nat → Bool} {held : Bool}
theorem cells_bool : Try.prog.cellsOf 4 = 1 := by kernel_rfl
theorem cells_cand : Try.prog.cellsOf 28 = 9 := by kernel_rfl

set_option maxRecDepth 100000 in
theorem cand_of_cells {fuel : Nat} {cs : List Value} {x : DataW H × List MemPlace} (h : DataW.trod enc Try.prog w 0 sp held fuel 28 cs = some x) : ∃ p, cs = candC p ∧ CandFit p := by
  obtain ⟨xs, n, _, _, hlen, hx, hg⟩ := DataW.trod_struct Try.underlying28 h
  have hl : cs.length = 9 := hlen.trans cells_cand
  match cs, hl, xs, hx with
  | [c0, c1, c2, c3, c4, c5, c6, c7, c8], _, [y0, y1, y2, y3, y4], _ =>
    have g0 := hg 0 _ rfl
    have g1 := hg 1 _ rfl
    have g2 := hg 2 _ rfl
    have g3 := hg 3 _ rfl
    have g4 := hg 4 _ rfl
    simp only [List.getElem?_cons_zero, List.getElem?_cons_succ] at g0 g1 g2 g3 g4
    obtain ⟨p, e0, w0⟩ := per_of_cells g0
    obtain ⟨b1, e1, _⟩ := DataW.trod_bool Try.underlying4 g1
    obtain ⟨b2, e2, _⟩ := DataW.trod_bool Try.underlying4 g2
    obtain ⟨b3, e3, _⟩ := DataW.trod_bool Try.underlying4 g3
    obtain ⟨n4, e4, _, w4⟩ := DataW.trod_int Try.underlying2 g4
    unfold perC at e0
    injection e0 with q0 e0
    injection e0 with q1 e0
    injection e0 with q2 e0
    injection e0 with q3 e0
    injection e0 with q4 e0
    injection e1 with e1
    injection e2 with e2
    injection e3 with e3
    injection e4 with e4
    subst q0 q1 q2 q3 q4 e1 e2 e3 e4
    exact ⟨⟨p, b1, b2, b3, n4⟩, rfl, ⟨w0, bounds_i64 w4⟩⟩

set_option maxRecDepth 100000 in
theorem candidate_of_trod {v : Value} {d : DataW H} {ps : List MemPlace} (hv : Value.okWide Try.prog w .any 0 28 v) (h : DataW.Trod enc Try.prog w 0 sp held 28 v d ps) : ∃ p, v = candV p ∧ CandFit p := by
  obtain ⟨cs, rfl, hsz⟩ := okWide_struct Try.underlying28 hv
  obtain ⟨fuel, hf⟩ := h
  obtain ⟨p, hp, hfit⟩ := cand_of_cells hf
  refine ⟨p, ?_, hfit⟩
  obtain ⟨l⟩ := cs
  simp only [Value.cells] at hp
  unfold candV
  unfold candC at hp
  rw [← show l = _ from hp]
end

set_option maxHeartbeats 1000000 in
theorem toCandidate_c (c : Cand) (w : World) : Calls Try.prog 11 #[candV c] w fun e w' => e = .returned (candV c) ∧ Below w.heap.size w w' := by
  unfold candV
  go_enter Try.func11, Try.ntmps11
  go_wp2
  go_returns
  exact ⟨rfl, by go_grown⟩
theorem szCandidate_c (c : Cand) (hp : CandFit c) (left : Int) (h0 : 0 ≤ left) (h1 : left ≤ 1048576) (w : World) :
    Calls Try.prog 8 #[candV c, .int .i64 left] w fun e w' => e = .returned (.int .i64 (szP left c.per)) ∧ Below w.heap.size w w' := by
  have HC := Lib.hid (szPerson_c c.per hp.per left h0 h1)
  have hb := szP_bd left c.per
  clear hp
  unfold candV
  generalize szP left c.per = r at *
  have BB : Below w.heap.size w (w.alloc (.cells #[.int .i64 c.per.number, .string c.per.first, .string c.per.last, .int .i64 c.per.born, .int .i64 c.per.zone, .bool c.citizen, .bool c.convicted, .bool c.fluent, .int .i64 c.job] 28)) := (Below.refl _ _).alloc (Nat.le_refl _) _
  by_cases q : r < 0
  · go_enter Try.func8, Try.ntmps8
    go_wp2_with fail
    refine (HC.out _).mono ?_
    rintro e w1 ⟨rfl, b1⟩
    replace BB := below_next BB (Nat.le_refl _) b1
    go_wp2_with fail
    go_ret
    exact ⟨ri (by omega), BB⟩
  · go_enter Try.func8, Try.ntmps8
    go_wp2_with fail
    refine (HC.out _).mono ?_
    rintro e w1 ⟨rfl, b1⟩
    replace BB := below_next BB (Nat.le_refl _) b1
    go_wp2_with fail
    go_ret
    exact ⟨rfl, BB⟩
def jobB (n : Int) : Bool := decide (0 ≤ n) && decide (n ≤ 20)
theorem jobB_iff (n : Int) : jobB n = true ↔ 0 ≤ n ∧ n ≤ 20 := by unfold jobB; simp
def candB (c : Cand) : Bool := perB c.per && jobB c.job
theorem within_job (n : Int) (w : World) : Calls Try.prog 75 #[.int .i64 n, .int .i64 0, .int .i64 20] w fun e w' => e = .returned (.bool (jobB n)) ∧ w = w' := by
  by_cases h : 0 ≤ n ∧ n ≤ 20
  · have e : jobB n = true := (jobB_iff n).2 h
    rw [e]
    exact within_yes n 0 20 h.1 h.2 w
  · have e : jobB n = false := by
      rw [← Bool.not_eq_true, jobB_iff]
      exact h
    rw [e]
    exact within_no n 0 20 (by omega) w
theorem in_job (n : Int) (w : World) : Calls Try.prog 71 #[.int .i64 n, .int .i64 0, .int .i64 20] w fun e w' => e = .returned (.bool (jobB n)) ∧ w = w' := by
  by_cases h : 0 ≤ n ∧ n ≤ 20
  · have e : jobB n = true := (jobB_iff n).2 h
    rw [e]
    exact in_yes n 0 20 h.1 h.2 w
  · have e : jobB n = false := by
      rw [← Bool.not_eq_true, jobB_iff]
      exact h
    rw [e]
    exact in_no n 0 20 (by omega) w
/-- Block b holds the candidate c. -/
def CandAt (w : World) (b : Nat) (c : Cand) : Prop :=
  PerAt w b c.per ∧ w.cell? ⟨b, 5, none⟩ = some (.bool c.citizen) ∧ w.cell? ⟨b, 6, none⟩ = some (.bool c.convicted) ∧ w.cell? ⟨b, 7, none⟩ = some (.bool c.fluent) ∧ w.cell? ⟨b, 8, none⟩ = some (.int .i64 c.job)
theorem candAt_new (w : World) (c : Cand) (e : TypeId) : CandAt (w.alloc (.cells #[.int .i64 c.per.number, .string c.per.first, .string c.per.last, .int .i64 c.per.born, .int .i64 c.per.zone, .bool c.citizen, .bool c.convicted, .bool c.fluent, .int .i64 c.job] e)) w.heap.size c := by
  have hg := heap_alloc_new w (.cells #[.int .i64 c.per.number, .string c.per.first, .string c.per.last, .int .i64 c.per.born, .int .i64 c.per.zone, .bool c.citizen, .bool c.convicted, .bool c.fluent, .int .i64 c.job] e)
  refine ⟨⟨by simp, ?_, ?_, ?_, ?_, ?_⟩, ?_, ?_, ?_, ?_⟩ <;> rw [cell_of_row _ _ _ _ _ _ hg] <;> rfl
theorem CandAt.below {w w' : World} {b : Nat} {c : Cand} (h : CandAt w b c) (hb : Below w.heap.size w w') : CandAt w' b c := by
  obtain ⟨h0, h5, h6, h7, h8⟩ := h
  have hs := h0.1
  exact ⟨h0.below hb, (hb.cell (p := ⟨b, 5, none⟩) hs).trans h5, (hb.cell (p := ⟨b, 6, none⟩) hs).trans h6, (hb.cell (p := ⟨b, 7, none⟩) hs).trans h7, (hb.cell (p := ⟨b, 8, none⟩) hs).trans h8⟩
set_option maxHeartbeats 1000000 in
theorem impl_IsCandidate (c : Cand) (hp : CandFit c) (w : World) :
    Calls Try.prog 62 #[candV c] w fun e w' => e = .returned (.bool (candB c)) ∧ Below w.heap.size w w' := by
  have HC := Lib.hid (impl_IsPerson c.per hp.per)
  clear hp
  have CA := candAt_new w c 37
  have BB : Below w.heap.size w (w.alloc (.cells #[.int .i64 c.per.number, .string c.per.first, .string c.per.last, .int .i64 c.per.born, .int .i64 c.per.zone, .bool c.citizen, .bool c.convicted, .bool c.fluent, .int .i64 c.job] 37)) := (Below.refl _ _).alloc (Nat.le_refl _) _
  unfold candV
  cases q : perB c.per
  · have HB : Hid (candB c = false) := Lib.hid (by unfold candB; rw [q]; rfl)
    rw [q] at HC
    go_enter Try.func62, Try.ntmps62
    go_wp2_with fail
    refine (HC.out _).mono ?_
    rintro e w1 ⟨rfl, b1⟩
    replace BB := below_next BB (Nat.le_refl _) b1
    go_wp2_with fail
    go_ret
    exact ⟨rb HB.out.symm, BB⟩
  · have HB : Hid (candB c = jobB c.job) := Lib.hid (by unfold candB; rw [q]; rfl)
    rw [q] at HC
    go_enter Try.func62, Try.ntmps62
    go_wp2_with fail
    refine (HC.out _).mono ?_
    rintro e w1 ⟨rfl, b1⟩
    replace BB := below_next BB (Nat.le_refl _) b1
    replace CA := CA.below b1
    have c0 := CA.1.1
    have c8 := CA.2.2.2.2
    go_wp2_with fail
    refine (within_job c.job _).mono ?_
    rintro e w' ⟨rfl, rfl⟩
    go_wp2_with fail
    go_ret
    exact ⟨rb HB.out.symm, BB⟩
set_option maxHeartbeats 1000000 in
theorem spec_IsCandidate (c : Cand) (hp : CandFit c) (w : World) :
    Calls Try.prog 90 #[candV c] w fun e w' => e = .returned (.bool (candB c)) ∧ Below w.heap.size w w' := by
  have HC := Lib.hid (spec_IsPerson c.per hp.per)
  clear hp
  have CA := candAt_new w c 37
  have BB : Below w.heap.size w (w.alloc (.cells #[.int .i64 c.per.number, .string c.per.first, .string c.per.last, .int .i64 c.per.born, .int .i64 c.per.zone, .bool c.citizen, .bool c.convicted, .bool c.fluent, .int .i64 c.job] 37)) := (Below.refl _ _).alloc (Nat.le_refl _) _
  unfold candV
  cases q : perB c.per
  · have HB : Hid (candB c = false) := Lib.hid (by unfold candB; rw [q]; rfl)
    rw [q] at HC
    go_enter Try.func90, Try.ntmps90
    go_wp2_with fail
    refine (HC.out _).mono ?_
    rintro e w1 ⟨rfl, b1⟩
    replace BB := below_next BB (Nat.le_refl _) b1
    go_wp2_with fail
    go_ret
    exact ⟨rb HB.out.symm, BB⟩
  · have HB : Hid (candB c = jobB c.job) := Lib.hid (by unfold candB; rw [q]; rfl)
    rw [q] at HC
    go_enter Try.func90, Try.ntmps90
    go_wp2_with fail
    refine (HC.out _).mono ?_
    rintro e w1 ⟨rfl, b1⟩
    replace BB := below_next BB (Nat.le_refl _) b1
    replace CA := CA.below b1
    have c0 := CA.1.1
    have c8 := CA.2.2.2.2
    go_wp2_with fail
    refine (in_job c.job _).mono ?_
    rintro e w' ⟨rfl, rfl⟩
    go_wp2_with fail
    go_ret
    exact ⟨rb HB.out.symm, BB⟩
end Go.Proofs.Ythnilifepiihjaa
