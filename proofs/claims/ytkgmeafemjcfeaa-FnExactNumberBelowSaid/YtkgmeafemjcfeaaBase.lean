/-
  Contracts of the functions that every law of this seat meets, the walks of the plain laws over numbers, words and holidays.
  Conditions: each lemma names its own.
-/
import Derived.Test.YtkgmeafemjcfeaaPre
namespace Go.Proofs.Ytkgmeafemjcfeaa
open Go.RowKit

theorem wk_Constants (w : World) : Calls Try.prog 3 #[] w fun e w' => e = .returned (.bool true) ∧ Below w.heap.size w w' := by
  go_enter Try.func3, Try.ntmps3
  go_wp2
  go_ret
  exact ⟨rfl, Below.refl _ _⟩

theorem wk_NextState (a0 : Int) (w0 : -9223372036854775808 ≤ a0 ∧ a0 ≤ 9223372036854775807) (w : World) :
    Calls Try.prog 5 #[.int .i64 a0] w fun e w' => e = .returned (.bool true) ∧ Below w.heap.size w w' := by
  by_cases h1 : 1 ≤ a0
  · by_cases h2 : a0 ≤ 2147483646
    · go_enter Try.func5, Try.ntmps5
      go_wp2
      go_ret
      exact ⟨rfl, Below.refl _ _⟩
    · go_enter Try.func5, Try.ntmps5
      go_wp2
      go_ret
      exact ⟨rfl, Below.refl _ _⟩
  · go_enter Try.func5, Try.ntmps5
    go_wp2
    go_ret
    exact ⟨rfl, Below.refl _ _⟩

theorem wk_CommitmentOf (a0 a1 : Int) (w0 : -9223372036854775808 ≤ a0 ∧ a0 ≤ 9223372036854775807) (w1 : -9223372036854775808 ≤ a1 ∧ a1 ≤ 9223372036854775807) (w : World) :
    Calls Try.prog 6 #[.int .i64 a0, .int .i64 a1] w fun e w' => e = .returned (.bool true) ∧ Below w.heap.size w w' := by
  by_cases h1 : 1 ≤ a0 <;> by_cases h2 : a0 ≤ 2147483646 <;> by_cases h3 : 0 ≤ a1 <;> by_cases h4 : a1 ≤ 2147483646 <;> try omega
  all_goals
    go_enter Try.func6, Try.ntmps6
    go_wp2
    go_ret
    exact ⟨rfl, Below.refl _ _⟩

/-- The next state, as both packages reckon it. -/
def nx (s : Int) : Int := s * 48271 % 2147483647
theorem nx_bd (s : Int) : 0 ≤ nx s ∧ nx s ≤ 2147483646 := by unfold nx; omega
theorem nx_pos (s : Int) (h1 : 1 ≤ s) (h2 : s ≤ 2147483646) : 1 ≤ nx s := by
  have hb := nx_bd s
  rcases Int.lt_or_le 0 (nx s) with h | h
  · omega
  · have h0 : s * 48271 % 2147483647 = 0 := by unfold nx at h hb; omega
    omega

theorem spec_next (s : Int) (h1 : 1 ≤ s) (h2 : s ≤ 2147483646) (w : World) : Calls Try.prog 24 #[.int .i64 s] w fun e w' => e = .returned (.int .i64 (nx s)) ∧ w = w' := by
  go_enter Try.func24, Try.ntmps24
  go_wp2
  go_ret
  exact ⟨rfl, rfl⟩
theorem impl_next (s : Int) (h1 : 1 ≤ s) (h2 : s ≤ 2147483646) (w : World) : Calls Try.prog 26 #[.int .i64 s] w fun e w' => e = .returned (.int .i64 (nx s)) ∧ w = w' := by
  go_enter Try.func26, Try.ntmps26
  go_wp2
  go_ret
  exact ⟨ri (by unfold nx; rw [Int.mul_comm]), rfl⟩
theorem impl_below (s n : Int) (h1 : 1 ≤ s) (h2 : s ≤ 2147483646) (hn1 : 0 ≤ n) (hn2 : n ≤ 1000000) (w : World) :
    Calls Try.prog 30 #[.int .i64 s, .int .i64 n] w fun e w' => e = .returned (.tuple #[.int .i64 (nx s * n / 2147483647), .int .i64 (nx s)]) ∧ w = w' := by
  have hb := nx_bd s
  have hp1 : 0 ≤ nx s * n := Int.mul_nonneg hb.1 hn1
  have hp2 : nx s * n ≤ 2147483646 * 1000000 := Int.mul_le_mul hb.2 hn2 hn1 (by omega)
  go_enter Try.func30, Try.ntmps30
  go_wp2_with (first | (go_at_call 26; refine (impl_next _ h1 h2 _).mono ?_; rintro e w' ⟨rfl, rfl⟩))
  go_ret2
  exact ⟨rfl, rfl⟩
theorem wk_NumberBelow (a0 a1 : Int) (w0 : -9223372036854775808 ≤ a0 ∧ a0 ≤ 9223372036854775807) (w1 : -9223372036854775808 ≤ a1 ∧ a1 ≤ 9223372036854775807) (w : World) :
    Calls Try.prog 7 #[.int .i64 a0, .int .i64 a1] w fun e w' => e = .returned (.bool true) ∧ Below w.heap.size w w' := by
  by_cases h1 : 1 ≤ a0 <;> by_cases h2 : a0 ≤ 2147483646 <;> by_cases h3 : 1 ≤ a1 <;> by_cases h4 : a1 ≤ 1000000 <;> try omega
  all_goals
    have hb := nx_bd a0
    have hq : 1 ≤ a1 → a1 ≤ 1000000 → 0 ≤ nx a0 * a1 ∧ nx a0 * a1 ≤ 2147483646 * 1000000 := fun u v => ⟨Int.mul_nonneg hb.1 (by omega), Int.mul_le_mul hb.2 v (by omega) (by omega)⟩
    try (have hp := hq h3 h4)
    clear hq
    go_enter Try.func7, Try.ntmps7
    go_wp2_with (first | (go_at_call 30; refine (impl_below _ _ h1 h2 (by omega) h4 _).mono ?_; rintro e w' ⟨rfl, rfl⟩) | (go_at_call 24; refine (spec_next _ h1 h2 _).mono ?_; rintro e w' ⟨rfl, rfl⟩) | go_in)
    go_ret
    exact ⟨rfl, Below.refl _ _⟩
end Go.Proofs.Ytkgmeafemjcfeaa
