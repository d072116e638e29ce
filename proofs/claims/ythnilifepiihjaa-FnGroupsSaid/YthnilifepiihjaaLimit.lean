/-
  Whether a number is a limit of likeness.
  Conditions: each lemma names its own.
-/
import Derived.Test.YthnilifepiihjaaRange
namespace Go.Proofs.Ythnilifepiihjaa
open Go.RowKit
set_option linter.unusedVariables false

theorem limit_yes (n : Int) (h1 : 0 ≤ n) (h2 : n ≤ 100) (w : World) : Calls Try.prog 70 #[.int .i64 n] w fun e w' => e = .returned (.bool true) ∧ w = w' := by
  go_enter Try.func70, Try.ntmps70
  go_wp2_with fail
  refine (within_yes _ _ _ h1 h2 _).mono ?_
  rintro e w' ⟨rfl, rfl⟩
  go_wp2_with fail
  go_ret
  exact ⟨rfl, rfl⟩
theorem limit_no (n : Int) (h : n < 0 ∨ 100 < n) (w : World) : Calls Try.prog 70 #[.int .i64 n] w fun e w' => e = .returned (.bool false) ∧ w = w' := by
  go_enter Try.func70, Try.ntmps70
  go_wp2_with fail
  refine (within_no _ _ _ h _).mono ?_
  rintro e w' ⟨rfl, rfl⟩
  go_wp2_with fail
  go_ret
  exact ⟨rfl, rfl⟩

end Go.Proofs.Ythnilifepiihjaa
