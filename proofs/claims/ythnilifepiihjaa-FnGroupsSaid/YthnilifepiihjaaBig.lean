/-
  big: whether a code is too long.
  Conditions: each lemma names its own.
-/
import Derived.Test.YthnilifepiihjaaBytes
namespace Go.Proofs.Ythnilifepiihjaa
open Go.RowKit
set_option linter.unusedVariables false

theorem big_yes {v : Value} {bs : List Int} {w : World} (h : Bytes w v bs) (hb : 4096 < bs.length) : Calls Try.prog 14 #[v] w fun e w' => e = .returned (.bool true) ∧ w = w' := by
  obtain ⟨a, n, c, rfl, hl, hcap, hmost, _⟩ := row_cells h
  unfold maxLen at hmost
  rw [hl] at hb
  clear hl h
  go_enter Try.func14, Try.ntmps14
  go_wp2_with fail
  go_ret
  exact ⟨by simp; omega, rfl⟩
theorem big_no {v : Value} {bs : List Int} {w : World} (h : Bytes w v bs) (hb : bs.length ≤ 4096) : Calls Try.prog 14 #[v] w fun e w' => e = .returned (.bool false) ∧ w = w' := by
  obtain ⟨a, n, c, rfl, hl, hcap, hmost, _⟩ := row_cells h
  unfold maxLen at hmost
  rw [hl] at hb
  clear hl h
  go_enter Try.func14, Try.ntmps14
  go_wp2_with fail
  go_ret
  exact ⟨by simp; omega, rfl⟩
end Go.Proofs.Ythnilifepiihjaa
