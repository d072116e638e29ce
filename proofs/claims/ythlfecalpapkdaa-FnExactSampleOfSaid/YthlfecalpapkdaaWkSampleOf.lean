/-
  The walk of FnExactSampleOf.
  Conditions: none.
-/
import Derived.Test.YthlfecalpapkdaaSample
namespace Go.Proofs.Ythlfecalpapkdaa
open Go.RowKit
set_option linter.unusedVariables false

set_option maxHeartbeats 800000 in
theorem wk_FnExactSampleOf_ok (a0 : Int) (q1 : Nat) (q2 : Nat) (w : World) (h1 : 1 ≤ a0) (h2 : a0 ≤ 2147483646) (hn : q1 ≤ 200) (hk : q2 ≤ q1) :
    Calls Try.prog 6 #[.int .i64 a0, .int .i64 q1, .int .i64 q2] w fun e w' => e = .returned (.bool true) ∧ Below w.heap.size w w' := by
  go_enter Try.func6, Try.ntmps6
  go_wp2_with fail
  refine (spec_SampleOf_ok a0 q1 q2 h1 h2 hn hk).mono ?_
  rintro e w1 ⟨v1, rfl, o1, b1⟩
  go_wp2_with fail
  refine (impl_SampleOf_ok a0 q1 q2 h1 h2 hn hk).mono ?_
  rintro e w2 ⟨v2, rfl, o2, b2⟩
  have i2 := (Ints.own o1).below b2
  go_wp2_with fail
  refine (eqInt64S_c (Ints.own o2) i2).mono ?_
  rintro e w' ⟨rfl, m3, rfl⟩
  go_wp2_with fail
  refine (mark_c 1 (own_drewN o2 m3) (by omega) (by omega) (by omega)).mono ?_
  rintro e w4 ⟨rfl, o4, b4⟩
  go_wp2_with fail
  refine (held_c 1 (Ints.own o4) (by omega) (by omega) (by omega)).mono ?_
  rintro e w' ⟨rfl, m5, rfl⟩
  go_wp2_with fail
  refine (impl_SampleOf_ok a0 q1 q2 h1 h2 hn hk).mono ?_
  rintro e w6 ⟨v6, rfl, o6, b6⟩
  have l1 := b1.size
  have l2 := b2.size
  have l4 := b4.size
  have bb : Below w1.heap.size w1 w6 := (below_of_drewN ((below_of_drewN b2 m3).trans b4) m5).trans (b6.mono (Nat.le_trans l2 l4))
  have i6 := (Ints.own o1).below bb
  go_wp2_with fail
  refine (eqInt64S_c (Ints.own o6) i6).mono ?_
  rintro e w' ⟨rfl, m7, rfl⟩
  have o7 := own_below (own_drewN o4 m5) b6
  go_wp2_with fail
  refine (held_c 1 (Ints.own (own_drewN o7 m7)) (by omega) (by omega) (by omega)).mono ?_
  rintro e w' ⟨rfl, m8, rfl⟩
  go_wp2_with fail
  go_ret
  exact ⟨rfl, below_of_drewN (b1.trans (bb.mono l1)) _⟩
set_option maxHeartbeats 800000 in
theorem wk_FnExactSampleOf_bad (a0 : Int) (a1 : Int) (a2 : Int) (w : World) (hb : ¬ ((1 ≤ a0 ∧ a0 ≤ 2147483646) ∧ 0 ≤ a1 ∧ a1 ≤ 200)) :
    Calls Try.prog 6 #[.int .i64 a0, .int .i64 a1, .int .i64 a2] w fun e w' => e = .returned (.bool true) ∧ Below w.heap.size w w' := by
  go_enter Try.func6, Try.ntmps6
  go_wp2_with fail
  refine (spec_SampleOf_bad a0 a1 a2 hb).mono ?_
  rintro e w1 ⟨v1, rfl, o1, b1⟩
  go_wp2_with fail
  refine (impl_SampleOf_bad a0 a1 a2 hb).mono ?_
  rintro e w2 ⟨v2, rfl, o2, b2⟩
  have i2 := (Ints.own o1).below b2
  go_wp2_with fail
  refine (eqInt64S_c (Ints.own o2) i2).mono ?_
  rintro e w' ⟨rfl, m3, rfl⟩
  go_wp2_with fail
  refine (mark_c 1 (own_drewN o2 m3) (by omega) (by omega) (by omega)).mono ?_
  rintro e w4 ⟨rfl, o4, b4⟩
  go_wp2_with fail
  refine (held_c 1 (Ints.own o4) (by omega) (by omega) (by omega)).mono ?_
  rintro e w' ⟨rfl, m5, rfl⟩
  go_wp2_with fail
  refine (impl_SampleOf_bad a0 a1 a2 hb).mono ?_
  rintro e w6 ⟨v6, rfl, o6, b6⟩
  have l1 := b1.size
  have l2 := b2.size
  have l4 := b4.size
  have bb : Below w1.heap.size w1 w6 := (below_of_drewN ((below_of_drewN b2 m3).trans b4) m5).trans (b6.mono (Nat.le_trans l2 l4))
  have i6 := (Ints.own o1).below bb
  go_wp2_with fail
  refine (eqInt64S_c (Ints.own o6) i6).mono ?_
  rintro e w' ⟨rfl, m7, rfl⟩
  have o7 := own_below (own_drewN o4 m5) b6
  go_wp2_with fail
  refine (held_c 1 (Ints.own (own_drewN o7 m7)) (by omega) (by omega) (by omega)).mono ?_
  rintro e w' ⟨rfl, m8, rfl⟩
  go_wp2_with fail
  go_ret
  exact ⟨rfl, below_of_drewN (b1.trans (bb.mono l1)) _⟩
set_option maxHeartbeats 800000 in
theorem wk_FnExactSampleOf_range (a0 : Int) (q1 : Nat) (a2 : Int) (w : World) (h1 : 1 ≤ a0) (h2 : a0 ≤ 2147483646) (hn : q1 ≤ 200) (hk : a2 < 0 ∨ (q1 : Int) < a2) :
    Calls Try.prog 6 #[.int .i64 a0, .int .i64 q1, .int .i64 a2] w fun e w' => e = .returned (.bool true) ∧ Below w.heap.size w w' := by
  go_enter Try.func6, Try.ntmps6
  go_wp2_with fail
  refine (spec_SampleOf_range a0 q1 a2 h1 h2 hn hk).mono ?_
  rintro e w1 ⟨v1, rfl, o1, b1⟩
  go_wp2_with fail
  refine (impl_SampleOf_range a0 q1 a2 h1 h2 hn hk).mono ?_
  rintro e w2 ⟨v2, rfl, o2, b2⟩
  have i2 := (Ints.own o1).below b2
  go_wp2_with fail
  refine (eqInt64S_c (Ints.own o2) i2).mono ?_
  rintro e w' ⟨rfl, m3, rfl⟩
  go_wp2_with fail
  refine (mark_c 1 (own_drewN o2 m3) (by omega) (by omega) (by omega)).mono ?_
  rintro e w4 ⟨rfl, o4, b4⟩
  go_wp2_with fail
  refine (held_c 1 (Ints.own o4) (by omega) (by omega) (by omega)).mono ?_
  rintro e w' ⟨rfl, m5, rfl⟩
  go_wp2_with fail
  refine (impl_SampleOf_range a0 q1 a2 h1 h2 hn hk).mono ?_
  rintro e w6 ⟨v6, rfl, o6, b6⟩
  have l1 := b1.size
  have l2 := b2.size
  have l4 := b4.size
  have bb : Below w1.heap.size w1 w6 := (below_of_drewN ((below_of_drewN b2 m3).trans b4) m5).trans (b6.mono (Nat.le_trans l2 l4))
  have i6 := (Ints.own o1).below bb
  go_wp2_with fail
  refine (eqInt64S_c (Ints.own o6) i6).mono ?_
  rintro e w' ⟨rfl, m7, rfl⟩
  have o7 := own_below (own_drewN o4 m5) b6
  go_wp2_with fail
  refine (held_c 1 (Ints.own (own_drewN o7 m7)) (by omega) (by omega) (by omega)).mono ?_
  rintro e w' ⟨rfl, m8, rfl⟩
  go_wp2_with fail
  go_ret
  exact ⟨rfl, below_of_drewN (b1.trans (bb.mono l1)) _⟩
theorem wk_FnExactSampleOf (a0 : Int) (a1 : Int) (a2 : Int) (w : World) :
    Calls Try.prog 6 #[.int .i64 a0, .int .i64 a1, .int .i64 a2] w fun e w' => e = .returned (.bool true) ∧ Below w.heap.size w w' := by
  by_cases hb : (1 ≤ a0 ∧ a0 ≤ 2147483646) ∧ 0 ≤ a1 ∧ a1 ≤ 200
  · obtain ⟨⟨h1, h2⟩, h3, h4⟩ := hb
    obtain ⟨q, rfl⟩ := Int.eq_ofNat_of_zero_le h3
    by_cases hk : 0 ≤ a2 ∧ a2 ≤ (q : Int)
    · obtain ⟨k, rfl⟩ := Int.eq_ofNat_of_zero_le hk.1
      exact wk_FnExactSampleOf_ok a0 q k w h1 h2 (by omega) (by omega)
    · exact wk_FnExactSampleOf_range a0 q a2 w h1 h2 (by omega) (by omega)
  · exact wk_FnExactSampleOf_bad a0 a1 a2 w hb
end Go.Proofs.Ythlfecalpapkdaa
