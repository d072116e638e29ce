/-
  Slices of persons among a law's arguments: what they cost.
  Conditions: each lemma names its own.
-/
import Derived.Test.YthnilifepiihjaaArePers
namespace Go.Proofs.Ythnilifepiihjaa
open Go.RowKit

theorem szPerson_l (p : Per) (hp : PerFit p) (left : Int) (h0 : 0 ≤ left) (h1 : left ≤ 1048576) (w : World) :
    Calls Try.prog 56 #[.agg #[.int .i64 p.number, .string p.first, .string p.last, .int .i64 p.born, .int .i64 p.zone], .int .i64 left] w fun e w' => e = .returned (.int .i64 (szP left p)) ∧ Below w.heap.size w w' := szPerson_c p hp left h0 h1 w
end Go.Proofs.Ythnilifepiihjaa
