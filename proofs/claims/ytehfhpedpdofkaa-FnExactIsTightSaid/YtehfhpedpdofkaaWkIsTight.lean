/-
  The walk of FnExactIsTight. Conditions: none but that the slice reads as persons.
-/
import Derived.Test.YtehfhpedpdofkaaTight
namespace Go.Proofs.Ytehfhpedpdofkaa
open Go.RowKit
set_option linter.unusedVariables false

set_option maxHeartbeats 1000000 in
theorem wk_FnExactIsTight (a1 : Int) (a2 : Int) {v : Value} {ps : List Per} {w : World} (h : Persons w v ps) (hp : PersFit ps) :
    Calls Try.prog 4 #[v, .int .i64 a1, .int .i64 a2] w fun e w' => e = .returned (.bool true) ∧ Below w.heap.size w w' := by
  go_enter Try.func4, Try.ntmps4
  go_wp2_with fail
  refine (szPersonS_c h hp 1048576 (by omega) (by omega)).mono ?_
  rintro e w1 ⟨r, rfl, hr, b1⟩
  have BB := b1
  replace h := h.below b1
  rcases hr with rfl | ⟨hr0, hr1, hn⟩
  · go_wp2_with fail
    go_ret
    exact ⟨rfl, BB⟩
  · have hn' : ps.length ≤ 1048576 := by omega
    clear hn
    go_wp2_with fail
    refine (copyPersons h hn').mono ?_
    rintro e w2 ⟨v2, rfl, i2, b2⟩
    replace BB := below_next BB (Nat.le_refl _) b2
    replace h := h.below b2
    go_wp2_with fail
    refine (spec_Tight i2 hp a1 a2).mono ?_
    rintro e w3 ⟨rfl, b3⟩
    replace BB := below_next BB (Nat.le_refl _) b3
    replace h := h.below b3
    go_wp2_with fail
    refine (copyPersons h hn').mono ?_
    rintro e w4 ⟨v4, rfl, i4, b4⟩
    replace BB := below_next BB (Nat.le_refl _) b4
    replace h := h.below b4
    go_wp2_with fail
    refine (impl_Tight i4 hp a1 a2).mono ?_
    rintro e w5 ⟨rfl, b5⟩
    replace BB := below_next BB (Nat.le_refl _) b5
    replace h := h.below b5
    replace i4 := i4.below b5
    go_wp2_with fail
    refine (copyPersons h hn').mono ?_
    rintro e w6 ⟨v6, rfl, i6, b6⟩
    replace BB := below_next BB (Nat.le_refl _) b6
    replace i4 := i4.below b6
    go_wp2_with fail
    refine (eqPersonS_same i4 i6).mono ?_
    rintro e w7 ⟨rfl, b7⟩
    replace BB := below_next BB (Nat.le_refl _) b7
    go_wp2_with fail
    go_ret
    exact ⟨rfl, BB⟩
end Go.Proofs.Ytehfhpedpdofkaa
