/-
  Results that have memory: how laws compare, mark and look through them.
  Conditions: each lemma names its own.
-/
import Derived.Test.YthnilifepiihjaaHeldPer
import Derived.Test.YthnilifepiihjaaRes
namespace Go.Proofs.Ythnilifepiihjaa
open Go.RowKit
set_option linter.unusedVariables false

theorem P_far {base : Nat} {v : Value} {L : List Per} {w w' : World} {row : Option Nat} (h : w.ownsRow base 35 5 v L.length (L.flatMap perC)) (hg : w.grownBy w' row) (hrow : ∀ k, row = some k → k < base) : w'.ownsRow base 35 5 v L.length (L.flatMap perC) := own_far h hg hrow
theorem P_reads {base : Nat} {v : Value} {L : List Per} {w : World} (h : w.ownsRow base 35 5 v L.length (L.flatMap perC)) : Persons w v L := Row.own h
theorem P_below {base : Nat} {v : Value} {L : List Per} {w w' : World} (h : w.ownsRow base 35 5 v L.length (L.flatMap perC)) (hb : Below w.heap.size w w') : w'.ownsRow base 35 5 v L.length (L.flatMap perC) := own_below h hb
def P_cnt (L : List Per) : Nat := 5 * L.length
def P_mk (L : List Per) : List Per := pmarks 1 L.length
end Go.Proofs.Ythnilifepiihjaa
