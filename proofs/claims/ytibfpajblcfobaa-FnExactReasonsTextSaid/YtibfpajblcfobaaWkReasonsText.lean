/-
  The walk of FnExactReasonsText. Conditions: none but that the argument is an int64.
-/
import Derived.Test.YtibfpajblcfobaaRsn
namespace Go.Proofs.Ytibfpajblcfobaa
open Go.RowKit
set_option linter.unusedVariables false

set_option maxRecDepth 100000 in
set_option maxHeartbeats 4000000 in
theorem wk_FnExactReasonsText (a0 : Int) (w : World) :
    Calls Try.prog 3 #[.int .i64 a0] w fun e w' => e = .returned (.bool true) ∧ Below w.heap.size w w' := by
  by_cases h : 0 ≤ a0 ∧ a0 ≤ 127
  · obtain ⟨n, rfl⟩ : ∃ n : Nat, a0 = n := ⟨a0.toNat, by omega⟩
    have hn : n ≤ 127 := by omega
    have SP := Lib.hid (fun (w : World) => spec_ReasonsText n hn w)
    have IM := Lib.hid (fun (w : World) => impl_ReasonsText n hn w)
    generalize wtS (rsn n 7) = t at *
    clear h hn
    go_enter Try.func3, Try.ntmps3
    go_wp2_with fail
    refine (SP.out _).mono ?_
    rintro e w1 ⟨rfl, BB⟩
    go_wp2_with fail
    refine (IM.out _).mono ?_
    rintro e w2 ⟨rfl, b2⟩
    replace BB := below_next BB (Nat.le_refl _) b2
    go_wp2_with fail
    go_ret
    exact ⟨rfl, BB⟩
  · have h' : a0 < 0 ∨ 127 < a0 := by omega
    have SP := Lib.hid (fun (w : World) => spec_ReasonsText_no a0 h' w)
    have IM := Lib.hid (fun (w : World) => impl_ReasonsText_no a0 h' w)
    clear h h'
    go_enter Try.func3, Try.ntmps3
    go_wp2_with fail
    refine (SP.out _).mono ?_
    rintro e w1 ⟨rfl, BB⟩
    go_wp2_with fail
    refine (IM.out _).mono ?_
    rintro e w2 ⟨rfl, b2⟩
    replace BB := below_next BB (Nat.le_refl _) b2
    go_wp2_with fail
    go_ret
    exact ⟨rfl, BB⟩
end Go.Proofs.Ytibfpajblcfobaa
