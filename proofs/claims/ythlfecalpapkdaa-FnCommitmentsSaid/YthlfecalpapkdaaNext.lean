/-
  The next state, and a number below another one that is drawn.
  Conditions: each lemma names its own.
-/
import Derived.Test.YthlfecalpapkdaaPre
namespace Go.Proofs.Ythlfecalpapkdaa
open Go.RowKit

/-- The next state, as both packages reckon it. -/
def nx (s : Int) : Int := s * 48271 % 2147483647
theorem nx_bd (s : Int) : 0 ≤ nx s ∧ nx s ≤ 2147483646 := by unfold nx; omega
theorem nx_pos (s : Int) (h1 : 1 ≤ s) (h2 : s ≤ 2147483646) : 1 ≤ nx s := by
  have hb := nx_bd s
  rcases Int.lt_or_le 0 (nx s) with h | h
  · omega
  · have h0 : s * 48271 % 2147483647 = 0 := by unfold nx at h hb; omega
    omega

theorem spec_next (s : Int) (h1 : 1 ≤ s) (h2 : s ≤ 2147483646) (w : World) : Calls Try.prog 43 #[.int .i64 s] w fun e w' => e = .returned (.int .i64 (nx s)) ∧ w = w' := by
  go_enter Try.func43, Try.ntmps43
  go_wp2
  go_ret
  exact ⟨rfl, rfl⟩
theorem impl_next (s : Int) (h1 : 1 ≤ s) (h2 : s ≤ 2147483646) (w : World) : Calls Try.prog 46 #[.int .i64 s] w fun e w' => e = .returned (.int .i64 (nx s)) ∧ w = w' := by
  go_enter Try.func46, Try.ntmps46
  go_wp2
  go_ret
  exact ⟨ri (by unfold nx; rw [Int.mul_comm]), rfl⟩
theorem impl_below (s n : Int) (h1 : 1 ≤ s) (h2 : s ≤ 2147483646) (hn1 : 0 ≤ n) (hn2 : n ≤ 1000000) (w : World) :
    Calls Try.prog 62 #[.int .i64 s, .int .i64 n] w fun e w' => e = .returned (.tuple #[.int .i64 (nx s * n / 2147483647), .int .i64 (nx s)]) ∧ w = w' := by
  have hb := nx_bd s
  have hp1 : 0 ≤ nx s * n := Int.mul_nonneg hb.1 hn1
  have hp2 : nx s * n ≤ 2147483646 * 1000000 := Int.mul_le_mul hb.2 hn2 hn1 (by omega)
  go_enter Try.func62, Try.ntmps62
  go_wp2_with (first | (go_at_call 46; refine (impl_next _ h1 h2 _).mono ?_; rintro e w' ⟨rfl, rfl⟩))
  go_ret2
  exact ⟨rfl, rfl⟩
end Go.Proofs.Ythlfecalpapkdaa
