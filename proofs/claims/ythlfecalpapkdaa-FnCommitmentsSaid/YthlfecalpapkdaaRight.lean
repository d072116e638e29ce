/-
  IsRightDraw of both packages: what each call returns.
  Conditions: each lemma names its own.
-/
import Derived.Test.YthlfecalpapkdaaSample
import Derived.Test.YthlfecalpapkdaaSame
namespace Go.Proofs.Ythlfecalpapkdaa
open Go.RowKit
set_option linter.unusedVariables false

/-- The commitment of a state and a salt. -/
def cm (s t : Int) : Int := ((s * 16807 + t) % 2147483647 * 65539 + s) % 2147483647
theorem impl_commitment (s t : Int) (h1 : 1 ≤ s) (h2 : s ≤ 2147483646) (h3 : 0 ≤ t) (h4 : t ≤ 2147483646) (w : World) : Calls Try.prog 56 #[.int .i64 s, .int .i64 t] w fun e w' => e = .returned (.int .i64 (cm s t)) ∧ w = w' := by
  go_enter Try.func56, Try.ntmps56
  go_wp2
  go_ret
  exact ⟨rfl, rfl⟩
theorem spec_commit (s t : Int) (h1 : 1 ≤ s) (h2 : s ≤ 2147483646) (h3 : 0 ≤ t) (h4 : t ≤ 2147483646) (w : World) : Calls Try.prog 52 #[.int .i64 s, .int .i64 t] w fun e w' => e = .returned (.int .i64 (cm s t)) ∧ w = w' := by
  go_enter Try.func52, Try.ntmps52
  go_wp2
  go_ret
  exact ⟨rfl, rfl⟩
theorem few_yes (k : Nat) (m : Int) (h : (k : Int) ≤ m) (hk : k ≤ 9223372036854775807) (w : World) : Calls Try.prog 55 #[.int .i64 k, .int .i64 m] w fun e w' => e = .returned (.bool true) ∧ w = w' := by
  go_enter Try.func55, Try.ntmps55
  go_wp2
  go_ret
  exact ⟨rfl, rfl⟩
theorem few_no (k : Nat) (m : Int) (h : m < k) (hk : k ≤ 9223372036854775807) (w : World) : Calls Try.prog 55 #[.int .i64 k, .int .i64 m] w fun e w' => e = .returned (.bool false) ∧ w = w' := by
  go_enter Try.func55, Try.ntmps55
  go_wp2
  go_ret
  exact ⟨rb (decide_eq_false (by omega)), rfl⟩

/-- What IsRightDraw answers. -/
def rightB (cc s t : Int) (n : Nat) (xs : List Int) : Bool := (cm s t == cc) && decide ((shufL s n).take xs.length = xs)
set_option maxHeartbeats 800000 in
theorem impl_IsRightDraw_ok {v : Value} {xs : List Int} {w : World} (cc s t : Int) (n : Nat) (h1 : 1 ≤ s) (h2 : s ≤ 2147483646) (h3 : 0 ≤ t) (h4 : t ≤ 2147483646) (hn : n ≤ 200) (hl : xs.length ≤ n) (h : Ints w v xs) :
    Calls Try.prog 24 #[.int .i64 cc, .int .i64 s, .int .i64 t, .int .i64 n, v] w fun e w' => e = .returned (.tuple #[.bool (rightB cc s t n xs), .int .i64 0]) ∧ Below w.heap.size w w' := by
  obtain ⟨a, l, cp, rfl, H⟩ := h.parts
  have hlen := Lib.hid H.len
  have hcap := H.cap
  have hmost := H.most
  unfold maxLen at hmost
  clear H
  have hln : l ≤ n := by have := hlen.out; omega
  have HL := Lib.hid hl
  clear hl
  by_cases hc : (cm s t == cc) = true
  · have HC := Lib.hid hc
    go_enter Try.func24, Try.ntmps24
    go_wp2_with fail
    refine (isState_yes _ h1 h2 _).mono ?_
    rintro e w' ⟨rfl, rfl⟩
    go_wp2_with fail
    refine (isSalt_yes _ h3 h4 _).mono ?_
    rintro e w' ⟨rfl, rfl⟩
    go_wp2_with fail
    refine (isDrawn_yes (n : Int) (by omega) (by omega) _).mono ?_
    rintro e w' ⟨rfl, rfl⟩
    go_wp2_with fail
    refine (few_yes l (n : Int) (by omega) (by omega) _).mono ?_
    rintro e w' ⟨rfl, rfl⟩
    go_wp2_with fail
    refine (impl_commitment s t h1 h2 h3 h4 _).mono ?_
    rintro e w' ⟨rfl, rfl⟩
    go_wp2_with fail
    refine (impl_sample_c s n l h1 h2 hn hln).mono ?_
    rintro e w1 ⟨v1, rfl, o1, b1⟩
    have i2 := h.below b1
    go_wp2_with fail
    refine (impl_same (Ints.own o1) i2).mono ?_
    rintro e w' ⟨rfl, m, rfl⟩
    go_wp2_with fail
    go_ret2
    exact ⟨by unfold rightB; rw [HC.out, hlen.out]; simp, below_of_drewN b1 m⟩
  · have hc' : (cm s t == cc) = false := by simpa using hc
    have HC := Lib.hid hc'
    clear hc
    go_enter Try.func24, Try.ntmps24
    go_wp2_with fail
    refine (isState_yes _ h1 h2 _).mono ?_
    rintro e w' ⟨rfl, rfl⟩
    go_wp2_with fail
    refine (isSalt_yes _ h3 h4 _).mono ?_
    rintro e w' ⟨rfl, rfl⟩
    go_wp2_with fail
    refine (isDrawn_yes (n : Int) (by omega) (by omega) _).mono ?_
    rintro e w' ⟨rfl, rfl⟩
    go_wp2_with fail
    refine (few_yes l (n : Int) (by omega) (by omega) _).mono ?_
    rintro e w' ⟨rfl, rfl⟩
    go_wp2_with fail
    refine (impl_commitment s t h1 h2 h3 h4 _).mono ?_
    rintro e w' ⟨rfl, rfl⟩
    go_wp2_with fail
    go_ret2
    exact ⟨by unfold rightB; rw [HC.out]; simp, Below.refl _ _⟩

set_option maxHeartbeats 800000 in
theorem spec_IsRightDraw_ok {v : Value} {xs : List Int} {w : World} (cc s t : Int) (n : Nat) (h1 : 1 ≤ s) (h2 : s ≤ 2147483646) (h3 : 0 ≤ t) (h4 : t ≤ 2147483646) (hn : n ≤ 200) (hl : xs.length ≤ n) (h : Ints w v xs) :
    Calls Try.prog 22 #[.int .i64 cc, .int .i64 s, .int .i64 t, .int .i64 n, v] w fun e w' => e = .returned (.tuple #[.bool (rightB cc s t n xs), .int .i64 0]) ∧ Below w.heap.size w w' := by
  obtain ⟨a, l, cp, rfl, H⟩ := h.parts
  have hlen := Lib.hid H.len
  have hcap := H.cap
  have hmost := H.most
  unfold maxLen at hmost
  clear H
  have hln : l ≤ n := by have := hlen.out; omega
  have HL := Lib.hid hl
  clear hl
  by_cases hc : (cm s t == cc) = true
  · have HC := Lib.hid hc
    go_enter Try.func22, Try.ntmps22
    go_wp2_with fail
    refine (l03Code_ok s (n : Int) h1 h2 (by omega) (by omega) _).mono ?_
    rintro e w' ⟨rfl, rfl⟩
    go_wp2_with fail
    refine (in_yes t 0 2147483646 h3 h4 _).mono ?_
    rintro e w' ⟨rfl, rfl⟩
    go_wp2_with fail
    refine (spec_commit s t h1 h2 h3 h4 _).mono ?_
    rintro e w' ⟨rfl, rfl⟩
    go_wp2_with fail
    refine (spec_shuffle_c s n h1 h2 hn).mono ?_
    rintro e w1 ⟨v1, rfl, o1, b1⟩
    obtain ⟨a1, c1, hv, hcap1, hmost1, ha⟩ := own_form o1
    subst hv
    unfold maxLen at hmost1
    have o2 := own_cut o1 hln
    have hnc := Lib.hid (own_nil_cap o1)
    have i2 := h.below b1
    go_wp2_with fail
    refine (spec_same (Ints.own o2) i2).mono ?_
    rintro e w' ⟨rfl, m, rfl⟩
    go_wp2_with fail
    go_ret2
    exact ⟨by unfold rightB; rw [HC.out, hlen.out]; simp, below_of_drewN b1 m⟩
  · have hc' : (cm s t == cc) = false := by simpa using hc
    have HC := Lib.hid hc'
    clear hc
    go_enter Try.func22, Try.ntmps22
    go_wp2_with fail
    refine (l03Code_ok s (n : Int) h1 h2 (by omega) (by omega) _).mono ?_
    rintro e w' ⟨rfl, rfl⟩
    go_wp2_with fail
    refine (in_yes t 0 2147483646 h3 h4 _).mono ?_
    rintro e w' ⟨rfl, rfl⟩
    go_wp2_with fail
    refine (spec_commit s t h1 h2 h3 h4 _).mono ?_
    rintro e w' ⟨rfl, rfl⟩
    go_wp2_with fail
    go_ret2
    exact ⟨by unfold rightB; rw [HC.out]; simp, Below.refl _ _⟩

set_option maxHeartbeats 800000 in
theorem impl_IsRightDraw_bad {v : Value} {xs : List Int} {w : World} (cc s t n : Int) (hb : ¬ ((((1 ≤ s ∧ s ≤ 2147483646) ∧ 0 ≤ t ∧ t ≤ 2147483646) ∧ 0 ≤ n ∧ n ≤ 200) ∧ (xs.length : Int) ≤ n)) (h : Ints w v xs) :
    Calls Try.prog 24 #[.int .i64 cc, .int .i64 s, .int .i64 t, .int .i64 n, v] w fun e w' => e = .returned (.tuple #[.bool false, .int .i64 2]) ∧ Below w.heap.size w w' := by
  obtain ⟨a, l, cp, rfl, H⟩ := h.parts
  have hlen := Lib.hid H.len
  have hcap := H.cap
  have hmost := H.most
  unfold maxLen at hmost
  clear H
  have HB := Lib.hid hb
  clear hb
  by_cases q1 : 1 ≤ s ∧ s ≤ 2147483646
  · by_cases q2 : 0 ≤ t ∧ t ≤ 2147483646
    · by_cases q3 : 0 ≤ n ∧ n ≤ 200
      · have q4 : n < (l : Int) := by have := HB.out; have := hlen.out; omega
        have Q1 := Lib.hid q1
        have Q2 := Lib.hid q2
        have Q3 := Lib.hid q3
        clear q1 q2
        obtain ⟨q5, q6⟩ := q3
        go_enter Try.func24, Try.ntmps24
        go_wp2_with fail
        refine (isState_yes _ Q1.out.1 Q1.out.2 _).mono ?_
        rintro e w' ⟨rfl, rfl⟩
        go_wp2_with fail
        refine (isSalt_yes _ Q2.out.1 Q2.out.2 _).mono ?_
        rintro e w' ⟨rfl, rfl⟩
        go_wp2_with fail
        refine (isDrawn_yes _ Q3.out.1 Q3.out.2 _).mono ?_
        rintro e w' ⟨rfl, rfl⟩
        go_wp2_with fail
        refine (few_no l n q4 (by omega) _).mono ?_
        rintro e w' ⟨rfl, rfl⟩
        go_wp2_with fail
        go_ret2
        exact ⟨rfl, Below.refl _ _⟩
      · have Q1 := Lib.hid q1
        have Q2 := Lib.hid q2
        have Q3 : Hid (n < 0 ∨ 200 < n) := Lib.hid (by omega)
        clear q1 q2 q3
        go_enter Try.func24, Try.ntmps24
        go_wp2_with fail
        refine (isState_yes _ Q1.out.1 Q1.out.2 _).mono ?_
        rintro e w' ⟨rfl, rfl⟩
        go_wp2_with fail
        refine (isSalt_yes _ Q2.out.1 Q2.out.2 _).mono ?_
        rintro e w' ⟨rfl, rfl⟩
        go_wp2_with fail
        refine (isDrawn_no _ Q3.out _).mono ?_
        rintro e w' ⟨rfl, rfl⟩
        go_wp2_with fail
        go_ret2
        exact ⟨rfl, Below.refl _ _⟩
    · have Q1 := Lib.hid q1
      have Q2 : Hid (t < 0 ∨ 2147483646 < t) := Lib.hid (by omega)
      clear q1 q2
      go_enter Try.func24, Try.ntmps24
      go_wp2_with fail
      refine (isState_yes _ Q1.out.1 Q1.out.2 _).mono ?_
      rintro e w' ⟨rfl, rfl⟩
      go_wp2_with fail
      refine (isSalt_no _ Q2.out _).mono ?_
      rintro e w' ⟨rfl, rfl⟩
      go_wp2_with fail
      go_ret2
      exact ⟨rfl, Below.refl _ _⟩
  · have Q1 : Hid (s < 1 ∨ 2147483646 < s) := Lib.hid (by omega)
    clear q1
    go_enter Try.func24, Try.ntmps24
    go_wp2_with fail
    refine (isState_no _ Q1.out _).mono ?_
    rintro e w' ⟨rfl, rfl⟩
    go_wp2_with fail
    go_ret2
    exact ⟨rfl, Below.refl _ _⟩

set_option maxHeartbeats 800000 in
theorem spec_IsRightDraw_bad {v : Value} {xs : List Int} {w : World} (cc s t n : Int) (hb : ¬ ((((1 ≤ s ∧ s ≤ 2147483646) ∧ 0 ≤ t ∧ t ≤ 2147483646) ∧ 0 ≤ n ∧ n ≤ 200) ∧ (xs.length : Int) ≤ n)) (h : Ints w v xs) :
    Calls Try.prog 22 #[.int .i64 cc, .int .i64 s, .int .i64 t, .int .i64 n, v] w fun e w' => e = .returned (.tuple #[.bool false, .int .i64 2]) ∧ Below w.heap.size w w' := by
  obtain ⟨a, l, cp, rfl, H⟩ := h.parts
  have hlen := Lib.hid H.len
  have hcap := H.cap
  have hmost := H.most
  unfold maxLen at hmost
  clear H
  have HB := Lib.hid hb
  clear hb
  by_cases q1 : (1 ≤ s ∧ s ≤ 2147483646) ∧ 0 ≤ n ∧ n ≤ 200
  · by_cases q2 : 0 ≤ t ∧ t ≤ 2147483646
    · have q4 : n < (l : Int) := by have := HB.out; have := hlen.out; omega
      have Q1 := Lib.hid q1
      have Q2 := Lib.hid q2
      clear q1 q2
      go_enter Try.func22, Try.ntmps22
      go_wp2_with fail
      refine (l03Code_ok s n Q1.out.1.1 Q1.out.1.2 Q1.out.2.1 Q1.out.2.2 _).mono ?_
      rintro e w' ⟨rfl, rfl⟩
      go_wp2_with fail
      refine (in_yes t 0 2147483646 Q2.out.1 Q2.out.2 _).mono ?_
      rintro e w' ⟨rfl, rfl⟩
      go_wp2_with fail
      go_ret2
      exact ⟨rfl, Below.refl _ _⟩
    · have Q1 := Lib.hid q1
      have Q2 : Hid (t < 0 ∨ 2147483646 < t) := Lib.hid (by omega)
      clear q1 q2
      go_enter Try.func22, Try.ntmps22
      go_wp2_with fail
      refine (l03Code_ok s n Q1.out.1.1 Q1.out.1.2 Q1.out.2.1 Q1.out.2.2 _).mono ?_
      rintro e w' ⟨rfl, rfl⟩
      go_wp2_with fail
      refine (in_no t 0 2147483646 Q2.out _).mono ?_
      rintro e w' ⟨rfl, rfl⟩
      go_wp2_with fail
      go_ret2
      exact ⟨rfl, Below.refl _ _⟩
  · have Q1 := Lib.hid q1
    clear q1
    go_enter Try.func22, Try.ntmps22
    go_wp2_with fail
    refine (l03Code_bad s n Q1.out _).mono ?_
    rintro e w' ⟨rfl, rfl⟩
    go_wp2_with fail
    go_ret2
    exact ⟨rfl, Below.refl _ _⟩

end Go.Proofs.Ythlfecalpapkdaa
