/-
  Results that have memory: how laws compare, mark and look through them.
  Conditions: each lemma names its own.
-/
import Derived.Test.YtehfhpedpdofkaaHeldPer
import Derived.Test.YtehfhpedpdofkaaRes
namespace Go.Proofs.Ytehfhpedpdofkaa
open Go.RowKit
set_option linter.unusedVariables false

theorem P_far {base : Nat} {v : Value} {L : List Per} {w w' : World} {row : Option Nat} (h : w.ownsRow base 56 5 v L.length (L.flatMap perC)) (hg : w.grownBy w' row) (hrow : ∀ k, row = some k → k < base) : w'.ownsRow base 56 5 v L.length (L.flatMap perC) := own_far h hg hrow
theorem P_reads {base : Nat} {v : Value} {L : List Per} {w : World} (h : w.ownsRow base 56 5 v L.length (L.flatMap perC)) : Persons w v L := Row.own h
theorem P_below {base : Nat} {v : Value} {L : List Per} {w w' : World} (h : w.ownsRow base 56 5 v L.length (L.flatMap perC)) (hb : Below w.heap.size w w') : w'.ownsRow base 56 5 v L.length (L.flatMap perC) := own_below h hb
theorem P_eq {v u : Value} {L : List Per} {w : World} (h : Persons w v L) (g : Persons w u L) :
    Calls Try.prog 15 #[v, u] w fun e w' => e = .returned (.bool true) ∧ Below w.heap.size w w' := eqPersonS_same h g
def P_cnt (L : List Per) : Nat := 5 * L.length
def P_mk (L : List Per) : List Per := pmarks 1 L.length
theorem P_mark {base : Nat} {v : Value} {L : List Per} {w : World} (h : w.ownsRow base 56 5 v L.length (L.flatMap perC)) (hb0 : base ≤ w.heap.size) (hL : P_cnt L ≤ 1000000) :
    Calls Try.prog 23 #[v, .int .i64 1] w fun e w' => e = .returned (.int .i64 (1 + (P_cnt L : Nat))) ∧ w'.ownsRow base 56 5 v (P_mk L).length ((P_mk L).flatMap perC) ∧ Below base w w' := by
  unfold P_cnt at *
  refine (markPersonS_c 1 h (by omega)).mono ?_
  rintro e w' ⟨he, ho, hb, _⟩
  refine ⟨by rw [he]; exact ri (by omega), ?_, hb⟩
  unfold P_mk
  rw [pmarks_len]
  exact ho
theorem P_held {v : Value} {L : List Per} {w : World} (h : Persons w v (P_mk L)) (hL : P_cnt L ≤ 1000000) :
    Calls Try.prog 28 #[v, .int .i64 1] w fun e w' => e = .returned (.int .i64 (1 + (P_cnt L : Nat))) ∧ Below w.heap.size w w' := by
  unfold P_cnt at *
  refine (heldPersonS_c 1 h (by omega)).mono ?_
  rintro e w' ⟨he, hb⟩
  exact ⟨by rw [he]; exact ri (by omega), hb⟩
end Go.Proofs.Ytehfhpedpdofkaa
