/-
  The walk of FnExactMoneyText. Conditions: the library's table of powers of ten reads as it is laid.
-/
import Derived.Test.YtimjjednfhnbbaaDoorMon
namespace Go.Proofs.YtimjjednfhnbbaaDoor
open Go.RowKit
set_option linter.unusedVariables false

set_option maxRecDepth 100000 in
set_option maxHeartbeats 4000000 in
theorem wk_FnExactMoneyText (a0 : Int) {w : World} (hl : LbT w) :
    Calls Tryd.prog 4 #[.int .i64 a0] w fun e w' => e = .returned (.bool true) ∧ Below w.heap.size w w' := by
  have SP := Lib.hid (fun (w : World) => spec_MoneyText a0 w)
  have IM := Lib.hid (fun (w : World) (hl : LbT w) => impl_MoneyText a0 hl)
  replace hl := Lib.hid hl
  generalize mtS a0 = t at *
  generalize mtN a0 = x at *
  go_enter Tryd.func4, Tryd.ntmps4
  go_wp2_with fail
  refine (SP.out _).mono ?_
  rintro e w1 ⟨rfl, BB⟩
  replace hl := Lib.hid (hl.out.below BB)
  go_wp2_with fail
  refine (IM.out _ hl.out).mono ?_
  rintro e w2 ⟨rfl, b2⟩
  replace BB := below_next BB (Nat.le_refl _) b2
  go_wp2_with fail
  go_ret
  exact ⟨rfl, BB⟩
end Go.Proofs.YtimjjednfhnbbaaDoor
