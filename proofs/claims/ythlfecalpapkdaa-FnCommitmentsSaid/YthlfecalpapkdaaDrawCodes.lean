/-
  Whether numbers are a state, a salt, a number of things that are drawn.
  Conditions: each lemma names its own.
-/
import Derived.Test.YthlfecalpapkdaaRange
namespace Go.Proofs.Ythlfecalpapkdaa
open Go.RowKit

theorem isState_yes (n : Int) (h1 : 1 ≤ n) (h2 : n ≤ 2147483646) (w : World) : Calls Try.prog 44 #[.int .i64 n] w fun e w' => e = .returned (.bool true) ∧ w = w' := by
  go_enter Try.func44, Try.ntmps44
  go_wp2_with fail
  refine (within_yes _ _ _ h1 h2 _).mono ?_
  rintro e w' ⟨rfl, rfl⟩
  go_wp2_with fail
  go_ret
  exact ⟨rfl, rfl⟩
theorem isState_no (n : Int) (h : n < 1 ∨ 2147483646 < n) (w : World) : Calls Try.prog 44 #[.int .i64 n] w fun e w' => e = .returned (.bool false) ∧ w = w' := by
  go_enter Try.func44, Try.ntmps44
  go_wp2_with fail
  refine (within_no _ _ _ h _).mono ?_
  rintro e w' ⟨rfl, rfl⟩
  go_wp2_with fail
  go_ret
  exact ⟨rfl, rfl⟩
theorem isSalt_yes (n : Int) (h1 : 0 ≤ n) (h2 : n ≤ 2147483646) (w : World) : Calls Try.prog 54 #[.int .i64 n] w fun e w' => e = .returned (.bool true) ∧ w = w' := by
  go_enter Try.func54, Try.ntmps54
  go_wp2_with fail
  refine (within_yes _ _ _ h1 h2 _).mono ?_
  rintro e w' ⟨rfl, rfl⟩
  go_wp2_with fail
  go_ret
  exact ⟨rfl, rfl⟩
theorem isSalt_no (n : Int) (h : n < 0 ∨ 2147483646 < n) (w : World) : Calls Try.prog 54 #[.int .i64 n] w fun e w' => e = .returned (.bool false) ∧ w = w' := by
  go_enter Try.func54, Try.ntmps54
  go_wp2_with fail
  refine (within_no _ _ _ h _).mono ?_
  rintro e w' ⟨rfl, rfl⟩
  go_wp2_with fail
  go_ret
  exact ⟨rfl, rfl⟩
theorem isDrawn_yes (n : Int) (h1 : 0 ≤ n) (h2 : n ≤ 200) (w : World) : Calls Try.prog 45 #[.int .i64 n] w fun e w' => e = .returned (.bool true) ∧ w = w' := by
  go_enter Try.func45, Try.ntmps45
  go_wp2_with fail
  refine (within_yes _ _ _ h1 h2 _).mono ?_
  rintro e w' ⟨rfl, rfl⟩
  go_wp2_with fail
  go_ret
  exact ⟨rfl, rfl⟩
theorem isDrawn_no (n : Int) (h : n < 0 ∨ 200 < n) (w : World) : Calls Try.prog 45 #[.int .i64 n] w fun e w' => e = .returned (.bool false) ∧ w = w' := by
  go_enter Try.func45, Try.ntmps45
  go_wp2_with fail
  refine (within_no _ _ _ h _).mono ?_
  rintro e w' ⟨rfl, rfl⟩
  go_wp2_with fail
  go_ret
  exact ⟨rfl, rfl⟩
theorem l03Is_yes (n : Int) (h1 : 1 ≤ n) (h2 : n ≤ 2147483646) (w : World) : Calls Try.prog 63 #[.int .i64 n] w fun e w' => e = .returned (.bool true) ∧ w = w' := by
  go_enter Try.func63, Try.ntmps63
  go_wp2_with fail
  refine (in_yes _ _ _ h1 h2 _).mono ?_
  rintro e w' ⟨rfl, rfl⟩
  go_wp2_with fail
  go_ret
  exact ⟨rfl, rfl⟩
theorem l03Is_no (n : Int) (h : n < 1 ∨ 2147483646 < n) (w : World) : Calls Try.prog 63 #[.int .i64 n] w fun e w' => e = .returned (.bool false) ∧ w = w' := by
  go_enter Try.func63, Try.ntmps63
  go_wp2_with fail
  refine (in_no _ _ _ h _).mono ?_
  rintro e w' ⟨rfl, rfl⟩
  go_wp2_with fail
  go_ret
  exact ⟨rfl, rfl⟩
theorem l03Code_ok (s n : Int) (h1 : 1 ≤ s) (h2 : s ≤ 2147483646) (h3 : 0 ≤ n) (h4 : n ≤ 200) (w : World) : Calls Try.prog 42 #[.int .i64 s, .int .i64 n] w fun e w' => e = .returned (.int .i64 0) ∧ w = w' := by
  go_enter Try.func42, Try.ntmps42
  go_wp2_with fail
  refine (l03Is_yes _ h1 h2 _).mono ?_
  rintro e w' ⟨rfl, rfl⟩
  go_wp2_with fail
  refine (in_yes _ _ _ h3 h4 _).mono ?_
  rintro e w' ⟨rfl, rfl⟩
  go_wp2_with fail
  go_ret
  exact ⟨rfl, rfl⟩
theorem l03Code_bad (s n : Int) (h : ¬ ((1 ≤ s ∧ s ≤ 2147483646) ∧ 0 ≤ n ∧ n ≤ 200)) (w : World) : Calls Try.prog 42 #[.int .i64 s, .int .i64 n] w fun e w' => e = .returned (.int .i64 2) ∧ w = w' := by
  by_cases q : 1 ≤ s ∧ s ≤ 2147483646
  · have HQ := Lib.hid q
    have HN : Hid (n < 0 ∨ 200 < n) := Lib.hid (by omega)
    clear q h
    go_enter Try.func42, Try.ntmps42
    go_wp2_with fail
    refine (l03Is_yes _ HQ.out.1 HQ.out.2 _).mono ?_
    rintro e w' ⟨rfl, rfl⟩
    go_wp2_with fail
    refine (in_no _ _ _ HN.out _).mono ?_
    rintro e w' ⟨rfl, rfl⟩
    go_wp2_with fail
    go_ret
    exact ⟨rfl, rfl⟩
  · have HN : Hid (s < 1 ∨ 2147483646 < s) := Lib.hid (by omega)
    clear q h
    go_enter Try.func42, Try.ntmps42
    go_wp2_with fail
    refine (l03Is_no _ HN.out _).mono ?_
    rintro e w' ⟨rfl, rfl⟩
    go_wp2_with fail
    go_ret
    exact ⟨rfl, rfl⟩
end Go.Proofs.Ythlfecalpapkdaa
