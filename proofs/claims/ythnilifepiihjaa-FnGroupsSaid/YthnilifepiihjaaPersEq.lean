/-
  Two slices that read as the same persons are equal to a law.
  Conditions: each lemma names its own.
-/
import Derived.Test.YthnilifepiihjaaPersCopy
namespace Go.Proofs.Ythnilifepiihjaa
open Go.RowKit

end Go.Proofs.Ythnilifepiihjaa
