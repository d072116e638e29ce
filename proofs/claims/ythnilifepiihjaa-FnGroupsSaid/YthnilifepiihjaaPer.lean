/-
  Persons by value: whether one is as described; the copy that a law makes.
  Conditions: each lemma names its own.
-/
import Derived.Test.YthnilifepiihjaaWord
import Derived.Test.YthnilifepiihjaaRange
namespace Go.Proofs.Ythnilifepiihjaa
open Go.RowKit

/-- A person, as data. -/
structure Per where
  number : Int
  first : ByteArray
  last : ByteArray
  born : Int
  zone : Int
/-- A person as a value. -/
def perV (p : Per) : Value := .agg #[.int .i64 p.number, .string p.first, .string p.last, .int .i64 p.born, .int .i64 p.zone]
def perC (p : Per) : List Value := [.int .i64 p.number, .string p.first, .string p.last, .int .i64 p.born, .int .i64 p.zone]
/-- The parts of a person fit their kinds. -/
structure PerFit (p : Per) : Prop where
  number : -9223372036854775808 ≤ p.number ∧ p.number ≤ 9223372036854775807
  first : p.first.size ≤ 9223372036854775807
  last : p.last.size ≤ 9223372036854775807
  born : -9223372036854775808 ≤ p.born ∧ p.born ≤ 9223372036854775807
  zone : -9223372036854775808 ≤ p.zone ∧ p.zone ≤ 9223372036854775807
def numB (n : Int) : Bool := decide (1 ≤ n) && decide (n ≤ 1000000)
def bornB (n : Int) : Bool := decide (1900 ≤ n) && decide (n ≤ 2100)
def zoneB (n : Int) : Bool := decide (0 ≤ n) && decide (n ≤ 99)
/-- A person as described. -/
def perB (p : Per) : Bool := numB p.number && (wordB p.first.data.toList && (wordB p.last.data.toList && (bornB p.born && zoneB p.zone)))
theorem numB_iff (n : Int) : numB n = true ↔ 1 ≤ n ∧ n ≤ 1000000 := by unfold numB; simp
theorem bornB_iff (n : Int) : bornB n = true ↔ 1900 ≤ n ∧ n ≤ 2100 := by unfold bornB; simp
theorem zoneB_iff (n : Int) : zoneB n = true ↔ 0 ≤ n ∧ n ≤ 99 := by unfold zoneB; simp
theorem perB_iff (p : Per) : perB p = true ↔ (1 ≤ p.number ∧ p.number ≤ 1000000) ∧ wordB p.first.data.toList = true ∧ wordB p.last.data.toList = true ∧ (1900 ≤ p.born ∧ p.born ≤ 2100) ∧ 0 ≤ p.zone ∧ p.zone ≤ 99 := by
  unfold perB
  simp only [Bool.and_eq_true, numB_iff, bornB_iff, zoneB_iff]

theorem within_num (n : Int) (w : World) : Calls Try.prog 75 #[.int .i64 n, .int .i64 1, .int .i64 1000000] w fun e w' => e = .returned (.bool (numB n)) ∧ w = w' := by
  by_cases h : 1 ≤ n ∧ n ≤ 1000000
  · have e : numB n = true := (numB_iff n).2 h
    rw [e]
    exact within_yes n 1 1000000 h.1 h.2 w
  · have e : numB n = false := by
      rw [← Bool.not_eq_true, numB_iff]
      exact h
    rw [e]
    exact within_no n 1 1000000 (by omega) w
theorem in_num (n : Int) (w : World) : Calls Try.prog 71 #[.int .i64 n, .int .i64 1, .int .i64 1000000] w fun e w' => e = .returned (.bool (numB n)) ∧ w = w' := by
  by_cases h : 1 ≤ n ∧ n ≤ 1000000
  · have e : numB n = true := (numB_iff n).2 h
    rw [e]
    exact in_yes n 1 1000000 h.1 h.2 w
  · have e : numB n = false := by
      rw [← Bool.not_eq_true, numB_iff]
      exact h
    rw [e]
    exact in_no n 1 1000000 (by omega) w
theorem within_born (n : Int) (w : World) : Calls Try.prog 75 #[.int .i64 n, .int .i64 1900, .int .i64 2100] w fun e w' => e = .returned (.bool (bornB n)) ∧ w = w' := by
  by_cases h : 1900 ≤ n ∧ n ≤ 2100
  · have e : bornB n = true := (bornB_iff n).2 h
    rw [e]
    exact within_yes n 1900 2100 h.1 h.2 w
  · have e : bornB n = false := by
      rw [← Bool.not_eq_true, bornB_iff]
      exact h
    rw [e]
    exact within_no n 1900 2100 (by omega) w
theorem in_born (n : Int) (w : World) : Calls Try.prog 71 #[.int .i64 n, .int .i64 1900, .int .i64 2100] w fun e w' => e = .returned (.bool (bornB n)) ∧ w = w' := by
  by_cases h : 1900 ≤ n ∧ n ≤ 2100
  · have e : bornB n = true := (bornB_iff n).2 h
    rw [e]
    exact in_yes n 1900 2100 h.1 h.2 w
  · have e : bornB n = false := by
      rw [← Bool.not_eq_true, bornB_iff]
      exact h
    rw [e]
    exact in_no n 1900 2100 (by omega) w
theorem within_zone (n : Int) (w : World) : Calls Try.prog 75 #[.int .i64 n, .int .i64 0, .int .i64 99] w fun e w' => e = .returned (.bool (zoneB n)) ∧ w = w' := by
  by_cases h : 0 ≤ n ∧ n ≤ 99
  · have e : zoneB n = true := (zoneB_iff n).2 h
    rw [e]
    exact within_yes n 0 99 h.1 h.2 w
  · have e : zoneB n = false := by
      rw [← Bool.not_eq_true, zoneB_iff]
      exact h
    rw [e]
    exact within_no n 0 99 (by omega) w
theorem in_zone (n : Int) (w : World) : Calls Try.prog 71 #[.int .i64 n, .int .i64 0, .int .i64 99] w fun e w' => e = .returned (.bool (zoneB n)) ∧ w = w' := by
  by_cases h : 0 ≤ n ∧ n ≤ 99
  · have e : zoneB n = true := (zoneB_iff n).2 h
    rw [e]
    exact in_yes n 0 99 h.1 h.2 w
  · have e : zoneB n = false := by
      rw [← Bool.not_eq_true, zoneB_iff]
      exact h
    rw [e]
    exact in_no n 0 99 (by omega) w
theorem isZone_c (n : Int) (w : World) : Calls Try.prog 77 #[.int .i64 n] w fun e w' => e = .returned (.bool (zoneB n)) ∧ w = w' := by
  go_enter Try.func77, Try.ntmps77
  go_wp2_with fail
  refine (within_zone n _).mono ?_
  rintro e w' ⟨rfl, rfl⟩
  go_wp2_with fail
  go_ret
  exact ⟨rfl, rfl⟩

set_option maxHeartbeats 1000000 in
theorem impl_IsPerson (p : Per) (hp : PerFit p) (w : World) : Calls Try.prog 27 #[perV p] w fun e w' => e = .returned (.bool (perB p)) ∧ Below w.heap.size w w' := by
  have hf := hp.first
  have hl := hp.last
  clear hp
  unfold perV
  cases q0 : numB p.number
  · have HB : Hid (perB p = false) := Lib.hid (by unfold perB; simp [q0])
    go_enter Try.func27, Try.ntmps27
    go_wp2_with fail
    refine (within_num p.number _).mono ?_
    rintro e w' ⟨rfl, rfl⟩
    go_wp2_with fail
    go_ret
    exact ⟨rb HB.out.symm, (Below.refl _ _).alloc (Nat.le_refl _) _⟩
  · skip
    cases q1 : wordB p.first.data.toList
    · have HB : Hid (perB p = false) := Lib.hid (by unfold perB; simp [q0, q1])
      go_enter Try.func27, Try.ntmps27
      go_wp2_with fail
      refine (within_num p.number _).mono ?_
      rintro e w' ⟨rfl, rfl⟩
      go_wp2_with fail
      refine (impl_IsWord p.first _ hf).mono ?_
      rintro e w' ⟨rfl, rfl⟩
      go_wp2_with fail
      go_ret
      exact ⟨rb HB.out.symm, (Below.refl _ _).alloc (Nat.le_refl _) _⟩
    · skip
      cases q2 : wordB p.last.data.toList
      · have HB : Hid (perB p = false) := Lib.hid (by unfold perB; simp [q0, q1, q2])
        go_enter Try.func27, Try.ntmps27
        go_wp2_with fail
        refine (within_num p.number _).mono ?_
        rintro e w' ⟨rfl, rfl⟩
        go_wp2_with fail
        refine (impl_IsWord p.first _ hf).mono ?_
        rintro e w' ⟨rfl, rfl⟩
        go_wp2_with fail
        refine (impl_IsWord p.last _ hl).mono ?_
        rintro e w' ⟨rfl, rfl⟩
        go_wp2_with fail
        go_ret
        exact ⟨rb HB.out.symm, (Below.refl _ _).alloc (Nat.le_refl _) _⟩
      · skip
        cases q3 : bornB p.born
        · have HB : Hid (perB p = false) := Lib.hid (by unfold perB; simp [q0, q1, q2, q3])
          go_enter Try.func27, Try.ntmps27
          go_wp2_with fail
          refine (within_num p.number _).mono ?_
          rintro e w' ⟨rfl, rfl⟩
          go_wp2_with fail
          refine (impl_IsWord p.first _ hf).mono ?_
          rintro e w' ⟨rfl, rfl⟩
          go_wp2_with fail
          refine (impl_IsWord p.last _ hl).mono ?_
          rintro e w' ⟨rfl, rfl⟩
          go_wp2_with fail
          refine (within_born p.born _).mono ?_
          rintro e w' ⟨rfl, rfl⟩
          go_wp2_with fail
          go_ret
          exact ⟨rb HB.out.symm, (Below.refl _ _).alloc (Nat.le_refl _) _⟩
        · skip
          have HB : Hid (perB p = zoneB p.zone) := Lib.hid (by unfold perB; simp [q0, q1, q2, q3])
          go_enter Try.func27, Try.ntmps27
          go_wp2_with fail
          refine (within_num p.number _).mono ?_
          rintro e w' ⟨rfl, rfl⟩
          go_wp2_with fail
          refine (impl_IsWord p.first _ hf).mono ?_
          rintro e w' ⟨rfl, rfl⟩
          go_wp2_with fail
          refine (impl_IsWord p.last _ hl).mono ?_
          rintro e w' ⟨rfl, rfl⟩
          go_wp2_with fail
          refine (within_born p.born _).mono ?_
          rintro e w' ⟨rfl, rfl⟩
          go_wp2_with fail
          refine (isZone_c p.zone _).mono ?_
          rintro e w' ⟨rfl, rfl⟩
          go_wp2_with fail
          go_ret
          exact ⟨rb HB.out.symm, (Below.refl _ _).alloc (Nat.le_refl _) _⟩

set_option maxHeartbeats 1000000 in
theorem spec_IsPerson (p : Per) (hp : PerFit p) (w : World) : Calls Try.prog 28 #[perV p] w fun e w' => e = .returned (.bool (perB p)) ∧ Below w.heap.size w w' := by
  have hf := hp.first
  have hl := hp.last
  clear hp
  unfold perV
  cases q0 : numB p.number
  · have HB : Hid (perB p = false) := Lib.hid (by unfold perB; simp [q0])
    go_enter Try.func28, Try.ntmps28
    go_wp2_with fail
    refine (in_num p.number _).mono ?_
    rintro e w' ⟨rfl, rfl⟩
    go_wp2_with fail
    go_ret
    exact ⟨rb HB.out.symm, (Below.refl _ _).alloc (Nat.le_refl _) _⟩
  · skip
    cases q1 : wordB p.first.data.toList
    · have HB : Hid (perB p = false) := Lib.hid (by unfold perB; simp [q0, q1])
      go_enter Try.func28, Try.ntmps28
      go_wp2_with fail
      refine (in_num p.number _).mono ?_
      rintro e w' ⟨rfl, rfl⟩
      go_wp2_with fail
      refine (spec_IsWord p.first _ hf).mono ?_
      rintro e w' ⟨rfl, rfl⟩
      go_wp2_with fail
      go_ret
      exact ⟨rb HB.out.symm, (Below.refl _ _).alloc (Nat.le_refl _) _⟩
    · skip
      cases q2 : wordB p.last.data.toList
      · have HB : Hid (perB p = false) := Lib.hid (by unfold perB; simp [q0, q1, q2])
        go_enter Try.func28, Try.ntmps28
        go_wp2_with fail
        refine (in_num p.number _).mono ?_
        rintro e w' ⟨rfl, rfl⟩
        go_wp2_with fail
        refine (spec_IsWord p.first _ hf).mono ?_
        rintro e w' ⟨rfl, rfl⟩
        go_wp2_with fail
        refine (spec_IsWord p.last _ hl).mono ?_
        rintro e w' ⟨rfl, rfl⟩
        go_wp2_with fail
        go_ret
        exact ⟨rb HB.out.symm, (Below.refl _ _).alloc (Nat.le_refl _) _⟩
      · skip
        cases q3 : bornB p.born
        · have HB : Hid (perB p = false) := Lib.hid (by unfold perB; simp [q0, q1, q2, q3])
          go_enter Try.func28, Try.ntmps28
          go_wp2_with fail
          refine (in_num p.number _).mono ?_
          rintro e w' ⟨rfl, rfl⟩
          go_wp2_with fail
          refine (spec_IsWord p.first _ hf).mono ?_
          rintro e w' ⟨rfl, rfl⟩
          go_wp2_with fail
          refine (spec_IsWord p.last _ hl).mono ?_
          rintro e w' ⟨rfl, rfl⟩
          go_wp2_with fail
          refine (in_born p.born _).mono ?_
          rintro e w' ⟨rfl, rfl⟩
          go_wp2_with fail
          go_ret
          exact ⟨rb HB.out.symm, (Below.refl _ _).alloc (Nat.le_refl _) _⟩
        · skip
          have HB : Hid (perB p = zoneB p.zone) := Lib.hid (by unfold perB; simp [q0, q1, q2, q3])
          go_enter Try.func28, Try.ntmps28
          go_wp2_with fail
          refine (in_num p.number _).mono ?_
          rintro e w' ⟨rfl, rfl⟩
          go_wp2_with fail
          refine (spec_IsWord p.first _ hf).mono ?_
          rintro e w' ⟨rfl, rfl⟩
          go_wp2_with fail
          refine (spec_IsWord p.last _ hl).mono ?_
          rintro e w' ⟨rfl, rfl⟩
          go_wp2_with fail
          refine (in_born p.born _).mono ?_
          rintro e w' ⟨rfl, rfl⟩
          go_wp2_with fail
          refine (in_zone p.zone _).mono ?_
          rintro e w' ⟨rfl, rfl⟩
          go_wp2_with fail
          go_ret
          exact ⟨rb HB.out.symm, (Below.refl _ _).alloc (Nat.le_refl _) _⟩

theorem toPerson_c (p : Per) (w : World) : Calls Try.prog 60 #[perV p] w fun e w' => e = .returned (perV p) ∧ Below w.heap.size w w' := by
  unfold perV
  go_enter Try.func60, Try.ntmps60
  go_wp2_with fail
  go_returns
  exact ⟨rfl, by go_grown⟩
end Go.Proofs.Ythnilifepiihjaa
