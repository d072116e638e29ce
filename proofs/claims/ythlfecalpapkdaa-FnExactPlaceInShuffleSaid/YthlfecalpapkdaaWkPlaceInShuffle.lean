/-
  The walk of FnExactPlaceInShuffle.
  Conditions: none.
-/
import Derived.Test.YthlfecalpapkdaaPlace
namespace Go.Proofs.Ythlfecalpapkdaa
open Go.RowKit
set_option linter.unusedVariables false

set_option maxHeartbeats 400000 in
theorem wk_FnExactPlaceInShuffle_ok (a0 : Int) (q1 : Nat) (a2 : Int) (w : World) (p : Nat) (h1 : 1 ≤ a0) (h2 : a0 ≤ 2147483646) (hn : q1 ≤ 200) (hx0 : 0 ≤ a2) (hx1 : a2 < q1) (hp : PlaceIs (shufL a0 q1) a2 p) :
    Calls Try.prog 4 #[.int .i64 a0, .int .i64 q1, .int .i64 a2] w fun e w' => e = .returned (.bool true) ∧ Below w.heap.size w w' := by
  go_enter Try.func4, Try.ntmps4
  go_wp2_with fail
  refine (spec_PlaceInShuffle_ok a0 q1 h1 h2 hn a2 p hx0 hx1 hp).mono ?_
  rintro e w1 ⟨rfl, b1⟩
  go_wp2_with fail
  refine (impl_PlaceInShuffle_ok a0 q1 h1 h2 hn a2 p hx0 hx1 hp).mono ?_
  rintro e w2 ⟨rfl, b2⟩
  go_wp2_with fail
  go_ret
  exact ⟨rfl, b1.trans (b2.mono b1.size)⟩
set_option maxHeartbeats 400000 in
theorem wk_FnExactPlaceInShuffle_bad (a0 : Int) (a1 : Int) (a2 : Int) (w : World) (hb : ¬ (((1 ≤ a0 ∧ a0 ≤ 2147483646) ∧ 0 ≤ a1 ∧ a1 ≤ 200) ∧ 0 ≤ a2 ∧ a2 < a1)) :
    Calls Try.prog 4 #[.int .i64 a0, .int .i64 a1, .int .i64 a2] w fun e w' => e = .returned (.bool true) ∧ Below w.heap.size w w' := by
  go_enter Try.func4, Try.ntmps4
  go_wp2_with fail
  refine (spec_PlaceInShuffle_bad a0 a1 a2 hb).mono ?_
  rintro e w1 ⟨rfl, b1⟩
  go_wp2_with fail
  refine (impl_PlaceInShuffle_bad a0 a1 a2 hb).mono ?_
  rintro e w2 ⟨rfl, b2⟩
  go_wp2_with fail
  go_ret
  exact ⟨rfl, b1.trans (b2.mono b1.size)⟩
theorem wk_FnExactPlaceInShuffle (a0 : Int) (a1 : Int) (a2 : Int) (w : World) :
    Calls Try.prog 4 #[.int .i64 a0, .int .i64 a1, .int .i64 a2] w fun e w' => e = .returned (.bool true) ∧ Below w.heap.size w w' := by
  by_cases hb : ((1 ≤ a0 ∧ a0 ≤ 2147483646) ∧ 0 ≤ a1 ∧ a1 ≤ 200) ∧ 0 ≤ a2 ∧ a2 < a1
  · obtain ⟨⟨⟨h1, h2⟩, h3, h4⟩, h5, h6⟩ := hb
    obtain ⟨q, rfl⟩ := Int.eq_ofNat_of_zero_le h3
    obtain ⟨p, hp⟩ := place_exists (shufL_mem h1 h2 h5 h6)
    exact wk_FnExactPlaceInShuffle_ok a0 q a2 w p h1 h2 (by omega) h5 h6 hp
  · exact wk_FnExactPlaceInShuffle_bad a0 a1 a2 w hb
end Go.Proofs.Ythlfecalpapkdaa
