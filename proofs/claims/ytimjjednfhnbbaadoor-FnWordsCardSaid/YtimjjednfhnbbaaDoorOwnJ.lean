/-
  Own rows of numbers that grow.
  Conditions: each lemma names its own.
-/
import Derived.Test.YtimjjednfhnbbaaDoorOwn
namespace Go.Proofs.YtimjjednfhnbbaaDoor
open Go.RowKit
set_option linter.unusedVariables false

/-- An own row of numbers. -/
def OwnJ (base : Nat) (v : Value) (xs : List Int) (w : World) : Prop := w.ownsRow base 2 1 v xs.length (xs.map (Value.int .i64))
theorem OwnJ.below {base : Nat} {v : Value} {s : List Int} {w w' : World} (h : OwnJ base v s w) (hb : Below w.heap.size w w') : OwnJ base v s w' := own_below h hb
theorem OwnJ.ints {base : Nat} {v : Value} {s : List Int} {w : World} (h : OwnJ base v s w) : Ints w v s := Ints.own h
theorem ownJ_snoc {base : Nat} {v : Value} {xs : List Int} {x : Int} {w : World} (h : w.ownsRow base 2 1 v (xs.length + 1) (xs.map (Value.int .i64) ++ [Value.int .i64 x])) : OwnJ base v (xs ++ [x]) w := by
  unfold OwnJ
  rw [List.length_append, List.map_append]
  exact h
theorem OwnJ.mono {base base' : Nat} {v : Value} {s : List Int} {w : World} (h : OwnJ base v s w) (hb : base' ≤ base) : OwnJ base' v s w := own_mono h hb
end Go.Proofs.YtimjjednfhnbbaaDoor
