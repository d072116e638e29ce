/-
  Reasons: the plain law.
  Conditions: none.
-/
import Derived.Test.YthnilifepiihjaaPre
namespace Go.Proofs.Ythnilifepiihjaa
open Go.RowKit
set_option linter.unusedVariables false

def bitI (b : Bool) : Int := if b then 1 else 0
/-- The sum of the weights of the first k truths. -/
def wtTo (ts : List Bool) : Nat → Int
  | 0 => 0
  | k + 1 => wtTo ts k + (if ts.getD k false then (2 : Int) ^ k else 0)
theorem wtTo_bd (ts : List Bool) : ∀ k, 0 ≤ wtTo ts k ∧ wtTo ts k < (2 : Int) ^ k
  | 0 => ⟨Int.le_refl _, by show (0 : Int) < 2 ^ 0; decide⟩
  | k + 1 => by
    have h := wtTo_bd ts k
    have hp : (0 : Int) < 2 ^ k := Int.pow_pos (by decide)
    have e : (2 : Int) ^ (k + 1) = 2 ^ k * 2 := Int.pow_succ _ _
    rw [wtTo]
    split <;> omega
theorem wtTo_yes {ts : List Bool} {k : Nat} (h : ts[k]? = some true) : wtTo ts (k + 1) = wtTo ts k + (2 : Int) ^ k := by
  rw [wtTo, List.getD, h]
  rfl
theorem wtTo_no {ts : List Bool} {k : Nat} (h : ts[k]? = some false) : wtTo ts (k + 1) = wtTo ts k := by
  rw [wtTo, List.getD, h]
  simp
end Go.Proofs.Ythnilifepiihjaa
