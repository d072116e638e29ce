/-
  Results that have memory: how laws compare, mark and look through them.
  Conditions: each lemma names its own.
-/
import Derived.Test.YthnilifepiihjaaMarkSS
namespace Go.Proofs.Ythnilifepiihjaa
open Go.RowKit
set_option linter.unusedVariables false

theorem own_far {base : Nat} {e : TypeId} {size n : Nat} {v : Value} {cs : List Value} {w w' : World} {row : Option Nat} (h : w.ownsRow base e size v n cs) (hg : w.grownBy w' row) (hrow : ∀ k, row = some k → k < base) : w'.ownsRow base e size v n cs := by
  refine h.kept hg ?_
  cases hq : v.ownBlock with
  | none => exact .inl rfl
  | some q => exact .inr fun e => by have := h.lt q hq; have := hrow q e.symm; omega
theorem SS_far {base : Nat} {v : Value} {L : List (List Int)} {w w' : World} {row : Option Nat} (h : Tab base v L w) (hg : w.grownBy w' row) (hrow : ∀ k, row = some k → k < base) : Tab base v L w' := by
  obtain ⟨vs, h1, h2, h3, h4⟩ := h
  exact ⟨vs, own_far h1 hg hrow, fun i u xs hu hx => own_far (h2 i u xs hu hx) hg hrow, h3, h4⟩
theorem SS_reads {base : Nat} {v : Value} {L : List (List Int)} {w : World} (h : Tab base v L w) : TabR w v L := h.reads
theorem SS_below {base : Nat} {v : Value} {L : List (List Int)} {w w' : World} (h : Tab base v L w) (hb : Below w.heap.size w w') : Tab base v L w' := h.below hb
def SS_cnt (L : List (List Int)) : Nat := tot L
def SS_mk (L : List (List Int)) : List (List Int) := marksS 1 L
theorem S_far {base : Nat} {v : Value} {L : List Int} {w w' : World} {row : Option Nat} (h : OwnI base v L w) (hg : w.grownBy w' row) (hrow : ∀ k, row = some k → k < base) : OwnI base v L w' := own_far h hg hrow
theorem S_reads {base : Nat} {v : Value} {L : List Int} {w : World} (h : OwnI base v L w) : Ints w v L := Ints.own h
theorem S_below {base : Nat} {v : Value} {L : List Int} {w w' : World} (h : OwnI base v L w) (hb : Below w.heap.size w w') : OwnI base v L w' := h.below hb
theorem S_eq {v u : Value} {L : List Int} {w : World} (h : Ints w v L) (g : Ints w u L) :
    Calls Try.prog 64 #[v, u] w fun e w' => e = .returned (.bool true) ∧ Below w.heap.size w w' := eqI_same h g
def S_cnt (L : List Int) : Nat := L.length
def S_mk (L : List Int) : List Int := marks 1 L.length
end Go.Proofs.Ythnilifepiihjaa
