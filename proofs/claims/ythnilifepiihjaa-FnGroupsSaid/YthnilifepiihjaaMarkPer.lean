/-
  Slices of persons that a call makes for itself: how they are marked and looked through again.
  Conditions: each lemma names its own.
-/
import Derived.Test.YthnilifepiihjaaMarkText
import Derived.Test.YthnilifepiihjaaPersEq
import Derived.Test.YthnilifepiihjaaOwn
import Derived.Maps.AppendAt
namespace Go.Proofs.Ythnilifepiihjaa
open Go.RowKit
set_option linter.unusedVariables false

def pmark (k : Nat) : Per := ⟨k, mt (k + 1), mt (k + 2), (k + 3 : Nat), (k + 4 : Nat)⟩
def pmarks (k n : Nat) : List Per := (List.range n).map fun i => pmark (k + 5 * i)
theorem pmarks_len (k n : Nat) : (pmarks k n).length = n := by simp [pmarks]
theorem pmarks_at (k : Nat) {n j : Nat} (h : j < n) : (pmarks k n)[j]? = some (pmark (k + 5 * j)) := by simp [pmarks, h]
theorem grown_below {w w' : World} (h : Below w.heap.size w w') (row : Option Nat) : w.grownBy w' row := ⟨h.os, h.tape, h.output, h.size, fun i hi _ => h.block i hi⟩
theorem grown_set (w : World) (g j : Nat) (u : Value) : w.grownBy (w.setCell ⟨g, j, none⟩ u) (some g) := by
  have hs : (w.setCell ⟨g, j, none⟩ u).heap.size = w.heap.size := by simp
  exact ⟨rfl, rfl, rfl, by omega, fun i _ hne => Below.heap_setCell w ⟨g, j, none⟩ u i (fun e => hne (by rw [e]))⟩

/-- The persons up to place k are marked. -/
def PMark (base : Nat) (w : World) (v : Value) (ps : List Per) (k : Nat) : Prop :=
  ∃ zs : List Value, zs.length = ps.length * 5 ∧ w.ownsRow base 35 5 v ps.length ((ps.take k).flatMap perC ++ zs.drop (k * 5))

end Go.Proofs.Ythnilifepiihjaa
