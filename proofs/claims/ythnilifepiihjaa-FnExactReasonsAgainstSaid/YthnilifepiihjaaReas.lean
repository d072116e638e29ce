/-
  The reasons against a candidate: impl.reasons.
  Conditions: each lemma names its own.
-/
import Derived.Test.YthnilifepiihjaaRulCopy
import Derived.Test.YthnilifepiihjaaHas
import Derived.Test.YthnilifepiihjaaReasP
import Derived.Test.YthnilifepiihjaaCand
namespace Go.Proofs.Ythnilifepiihjaa
open Go.RowKit
set_option linter.unusedVariables false

def truths (r : Rul) (c : Cand) : List Bool := [decide (r.year - c.per.born < r.least), decide (r.year - c.per.born > r.most), !decide (c.per.zone ∈ r.zones), !c.citizen, c.convicted, !c.fluent, decide (c.job ∈ r.jobs)]
theorem impl_hasB {v : Value} {xs : List Int} {w : World} (x : Int) (h : Ints w v xs) : Calls Try.prog 94 #[v, .int .i64 x] w fun e w' => e = .returned (.bool (decide (x ∈ xs))) ∧ Below w.heap.size w w' :=
  (impl_has x h).mono fun _ _ ⟨he, hw⟩ => ⟨he, by rw [hw]; exact Below.refl _ _⟩
theorem spec_hasB {v : Value} {xs : List Int} {w : World} (x : Int) (h : Ints w v xs) : Calls Try.prog 103 #[v, .int .i64 x] w fun e w' => e = .returned (.bool (decide (x ∈ xs))) ∧ Below w.heap.size w w' :=
  (spec_has x h).mono fun _ _ ⟨he, hw⟩ => ⟨he, by rw [hw]; exact Below.refl _ _⟩
theorem wtTo_128 (ts : List Bool) (k : Nat) (h : k ≤ 7) : 0 ≤ wtTo ts k ∧ wtTo ts k ≤ 127 := by
  obtain ⟨h0, h1⟩ := wtTo_bd ts k
  have h2 : (2 : Int) ^ k ≤ 128 := by
    rcases (show k = 0 ∨ k = 1 ∨ k = 2 ∨ k = 3 ∨ k = 4 ∨ k = 5 ∨ k = 6 ∨ k = 7 by omega) with rfl | rfl | rfl | rfl | rfl | rfl | rfl | rfl <;> decide
  omega
theorem wtTo_step {T : List Bool} {k : Nat} {b : Bool} (h : T[k]? = some b) : wtTo T (k + 1) = wtTo T k + (if b then (2 : Int) ^ k else 0) := by
  rw [wtTo, List.getD, h]
  rfl
set_option maxRecDepth 100000 in
set_option maxHeartbeats 4000000 in
theorem impl_reasons {v : Value} {r : Rul} {c : Cand} {w : World} (h : Ruls w v r) (y0 : 0 ≤ r.year ∧ r.year ≤ 10000) (y1 : 0 ≤ c.per.born ∧ c.per.born ≤ 10000) :
    Calls Try.prog 63 #[v, candV c] w fun e w' => e = .returned (.int .i64 (wtTo (truths r c) 7)) ∧ Below w.heap.size w w' := by
  obtain ⟨vz, vj, rfl, hz, hj⟩ := h
  unfold candV
  have eA : (w.alloc (.cells #[.int .i64 r.year, .int .i64 r.least, .int .i64 r.most, vz, vj] 33)).heap.size = w.heap.size + 1 := by simp
  have b0 : Below w.heap.size w ((w.alloc (.cells #[.int .i64 r.year, .int .i64 r.least, .int .i64 r.most, vz, vj] 33)).alloc (.cells #[.int .i64 c.per.number, .string c.per.first, .string c.per.last, .int .i64 c.per.born, .int .i64 c.per.zone, .bool c.citizen, .bool c.convicted, .bool c.fluent, .int .i64 c.job] 37)) := ((Below.refl _ _).alloc (Nat.le_refl _) _).alloc (by omega) _
  have HZ := Lib.hid (fun n : Ext ((w.alloc (.cells #[.int .i64 r.year, .int .i64 r.least, .int .i64 r.most, vz, vj] 33)).alloc (.cells #[.int .i64 c.per.number, .string c.per.first, .string c.per.last, .int .i64 c.per.born, .int .i64 c.per.zone, .bool c.citizen, .bool c.convicted, .bool c.fluent, .int .i64 c.job] 37)) => impl_hasB c.per.zone ((hz.below b0).below (ext_below _ n)))
  have HJ := Lib.hid (fun n : Ext ((w.alloc (.cells #[.int .i64 r.year, .int .i64 r.least, .int .i64 r.most, vz, vj] 33)).alloc (.cells #[.int .i64 c.per.number, .string c.per.first, .string c.per.last, .int .i64 c.per.born, .int .i64 c.per.zone, .bool c.citizen, .bool c.convicted, .bool c.fluent, .int .i64 c.job] 37)) => impl_hasB c.job ((hj.below b0).below (ext_below _ n)))
  have hT : Hid (truths r c = [decide (r.year - c.per.born < r.least), decide (r.most < r.year - c.per.born), !decide (c.per.zone ∈ r.zones), !c.citizen, c.convicted, !c.fluent, decide (c.job ∈ r.jobs)]) := Lib.hid rfl
  obtain ⟨az, nz, cz, rfl, _⟩ := hz.parts
  obtain ⟨aj, nj, cj, rfl, _⟩ := hj.parts
  clear hz hj eA
  generalize decide (c.per.zone ∈ r.zones) = t2 at *
  generalize decide (c.job ∈ r.jobs) = t6 at *
  generalize truths r c = T at *
  go_enter Try.func63, Try.ntmps63
  go_wp2_with fail
  refine region_ext (by kernel_rfl) (by kernel_rfl) ?_
  repeat (go_big_quiet_step ((first | with_reducible_and_instances exact ext_call (HZ.out _) | with_reducible_and_instances exact ext_call (HJ.out _))))
  refine wpQuiet_nil ?_
  rintro _ ⟨nx, rfl⟩
  have b3 := ext_below _ nx
  generalize extW _ nx = w3 at *
  replace b0 := below_next b0 (Nat.le_refl _) b3
  clear b3 HZ HJ
  generalize decide (r.year - c.per.born < r.least) = q0 at *
  generalize decide (r.most < r.year - c.per.born) = q1 at *
  generalize (!t2) = q2 at *
  generalize (!c.citizen) = q3 at *
  generalize (!c.fluent) = q5 at *
  generalize c.convicted = q4 at *
  have i0 : ∀ w, (Instr.index 106 (.agg #[.bool q0, .bool q1, .bool q2, .bool q3, .bool q4, .bool q5, .bool t6]) (.int .i64 0)).run Try.prog w = .ok (.bool q0) w := fun _ => by kernel_rfl
  have i1 : ∀ w, (Instr.index 106 (.agg #[.bool q0, .bool q1, .bool q2, .bool q3, .bool q4, .bool q5, .bool t6]) (.int .i64 1)).run Try.prog w = .ok (.bool q1) w := fun _ => by kernel_rfl
  have i2 : ∀ w, (Instr.index 106 (.agg #[.bool q0, .bool q1, .bool q2, .bool q3, .bool q4, .bool q5, .bool t6]) (.int .i64 2)).run Try.prog w = .ok (.bool q2) w := fun _ => by kernel_rfl
  have i3 : ∀ w, (Instr.index 106 (.agg #[.bool q0, .bool q1, .bool q2, .bool q3, .bool q4, .bool q5, .bool t6]) (.int .i64 3)).run Try.prog w = .ok (.bool q3) w := fun _ => by kernel_rfl
  have i4 : ∀ w, (Instr.index 106 (.agg #[.bool q0, .bool q1, .bool q2, .bool q3, .bool q4, .bool q5, .bool t6]) (.int .i64 4)).run Try.prog w = .ok (.bool q4) w := fun _ => by kernel_rfl
  have i5 : ∀ w, (Instr.index 106 (.agg #[.bool q0, .bool q1, .bool q2, .bool q3, .bool q4, .bool q5, .bool t6]) (.int .i64 5)).run Try.prog w = .ok (.bool q5) w := fun _ => by kernel_rfl
  have i6 : ∀ w, (Instr.index 106 (.agg #[.bool q0, .bool q1, .bool q2, .bool q3, .bool q4, .bool q5, .bool t6]) (.int .i64 6)).run Try.prog w = .ok (.bool t6) w := fun _ => by kernel_rfl
  have W0 := Lib.hid (wtTo_step (T := T) (k := 0) (b := q0) (by rw [hT.out]; rfl))
  have W1 := Lib.hid (wtTo_step (T := T) (k := 1) (b := q1) (by rw [hT.out]; rfl))
  have W2 := Lib.hid (wtTo_step (T := T) (k := 2) (b := q2) (by rw [hT.out]; rfl))
  have W3 := Lib.hid (wtTo_step (T := T) (k := 3) (b := q3) (by rw [hT.out]; rfl))
  have W4 := Lib.hid (wtTo_step (T := T) (k := 4) (b := q4) (by rw [hT.out]; rfl))
  have W5 := Lib.hid (wtTo_step (T := T) (k := 5) (b := q5) (by rw [hT.out]; rfl))
  have W6 := Lib.hid (wtTo_step (T := T) (k := 6) (b := t6) (by rw [hT.out]; rfl))
  go_wp2_with fail
  go_loopw [6, 44] (fun m i wr => ∃ k : Nat, k ≤ 7 ∧ i = .int .i64 k ∧ m = .int .i64 (wtTo T k) ∧ Below w.heap.size w wr) (fun _ i _ => 7 - (intOf i).toNat)
  case atStart => exact ⟨0, Nat.zero_le _, rfl, rfl, b0⟩
  case round =>
    clear b0
    obtain ⟨k, hk, rfl, rfl, BB⟩ := hrel
    obtain ⟨k0, k1⟩ := wtTo_128 T k hk
    rcases (show k = 0 ∨ k = 1 ∨ k = 2 ∨ k = 3 ∨ k = 4 ∨ k = 5 ∨ k = 6 ∨ k = 7 by omega) with rfl | rfl | rfl | rfl | rfl | rfl | rfl | rfl
    · have ww := W0.out
      cases q0
      · go_wp2_with fail
        exact ⟨⟨1, by omega, rfl, by rw [ww]; simp, BB⟩, by simp [intOf]⟩
      · go_wp2_with fail
        exact ⟨⟨1, by omega, rfl, by rw [ww]; rfl, BB⟩, by simp [intOf]⟩
    · have ww := W1.out
      cases q1
      · go_wp2_with fail
        exact ⟨⟨2, by omega, rfl, by rw [ww]; simp, BB⟩, by simp [intOf]⟩
      · go_wp2_with fail
        exact ⟨⟨2, by omega, rfl, by rw [ww]; rfl, BB⟩, by simp [intOf]⟩
    · have ww := W2.out
      cases q2
      · go_wp2_with fail
        exact ⟨⟨3, by omega, rfl, by rw [ww]; simp, BB⟩, by simp [intOf]⟩
      · go_wp2_with fail
        exact ⟨⟨3, by omega, rfl, by rw [ww]; rfl, BB⟩, by simp [intOf]⟩
    · have ww := W3.out
      cases q3
      · go_wp2_with fail
        exact ⟨⟨4, by omega, rfl, by rw [ww]; simp, BB⟩, by simp [intOf]⟩
      · go_wp2_with fail
        exact ⟨⟨4, by omega, rfl, by rw [ww]; rfl, BB⟩, by simp [intOf]⟩
    · have ww := W4.out
      cases q4
      · go_wp2_with fail
        exact ⟨⟨5, by omega, rfl, by rw [ww]; simp, BB⟩, by simp [intOf]⟩
      · go_wp2_with fail
        exact ⟨⟨5, by omega, rfl, by rw [ww]; rfl, BB⟩, by simp [intOf]⟩
    · have ww := W5.out
      cases q5
      · go_wp2_with fail
        exact ⟨⟨6, by omega, rfl, by rw [ww]; simp, BB⟩, by simp [intOf]⟩
      · go_wp2_with fail
        exact ⟨⟨6, by omega, rfl, by rw [ww]; rfl, BB⟩, by simp [intOf]⟩
    · have ww := W6.out
      cases t6
      · go_wp2_with fail
        exact ⟨⟨7, by omega, rfl, by rw [ww]; simp, BB⟩, by simp [intOf]⟩
      · go_wp2_with fail
        exact ⟨⟨7, by omega, rfl, by rw [ww]; rfl, BB⟩, by simp [intOf]⟩
    · go_wp2_with fail
      go_ret
      exact ⟨rfl, BB⟩
end Go.Proofs.Ythnilifepiihjaa
