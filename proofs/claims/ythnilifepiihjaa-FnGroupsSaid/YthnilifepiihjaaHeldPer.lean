/-
  Slices of persons that were marked: how they are looked through again.
  Conditions: each lemma names its own.
-/
import Derived.Test.YthnilifepiihjaaMarkPer
import Derived.Test.YthnilifepiihjaaPersLik
namespace Go.Proofs.Ythnilifepiihjaa
open Go.RowKit
set_option linter.unusedVariables false

end Go.Proofs.Ythnilifepiihjaa
