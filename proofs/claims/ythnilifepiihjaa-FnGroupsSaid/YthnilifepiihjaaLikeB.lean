/-
  Two lists of numbers that are the same.
  Conditions: each lemma names its own.
-/
import Derived.Test.YthnilifepiihjaaBig
import Derived.Test.YthnilifepiihjaaLike
namespace Go.Proofs.Ythnilifepiihjaa
open Go.RowKit
set_option linter.unusedVariables false

theorem likeInts_same {v u : Value} {xs : List Int} {w : World} (h : Ints w v xs) (g : Ints w u xs) :
    Calls Try.prog 39 #[v, u] w fun e w' => e = .returned (.bool true) ∧ Below w.heap.size w w' :=
  (likeInts_c h g).mono fun _ _ ⟨he, m, hw⟩ => ⟨he.trans (rb (decide_eq_true rfl)), hw ▸ below_of_drewN (Below.refl _ _) m⟩
theorem likeInts_ne {v u : Value} {xs ys : List Int} {w : World} (h : Ints w v xs) (g : Ints w u ys) :
    Calls Try.prog 39 #[v, u] w fun e w' => e = .returned (.bool (decide (xs = ys))) ∧ Below w.heap.size w w' :=
  (likeInts_c h g).mono fun _ _ ⟨he, m, hw⟩ => ⟨he, hw ▸ below_of_drewN (Below.refl _ _) m⟩
end Go.Proofs.Ythnilifepiihjaa
