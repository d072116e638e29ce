/-
  Results that have memory: how laws compare, mark and look through them.
  Conditions: each lemma names its own.
-/
import Derived.Test.YtehfhpedpdofkaaMarkSS
namespace Go.Proofs.Ytehfhpedpdofkaa
open Go.RowKit
set_option linter.unusedVariables false

theorem own_far {base : Nat} {e : TypeId} {size n : Nat} {v : Value} {cs : List Value} {w w' : World} {row : Option Nat} (h : w.ownsRow base e size v n cs) (hg : w.grownBy w' row) (hrow : ∀ k, row = some k → k < base) : w'.ownsRow base e size v n cs := by
  refine h.kept hg ?_
  cases hq : v.ownBlock with
  | none => exact .inl rfl
  | some q => exact .inr fun e => by have := h.lt q hq; have := hrow q e.symm; omega
theorem SS_far {base : Nat} {v : Value} {L : List (List Int)} {w w' : World} {row : Option Nat} (h : Tab base v L w) (hg : w.grownBy w' row) (hrow : ∀ k, row = some k → k < base) : Tab base v L w' := by
  obtain ⟨vs, h1, h2, h3, h4⟩ := h
  exact ⟨vs, own_far h1 hg hrow, fun i u xs hu hx => own_far (h2 i u xs hu hx) hg hrow, h3, h4⟩
theorem SS_reads {base : Nat} {v : Value} {L : List (List Int)} {w : World} (h : Tab base v L w) : TabR w v L := h.reads
theorem SS_below {base : Nat} {v : Value} {L : List (List Int)} {w w' : World} (h : Tab base v L w) (hb : Below w.heap.size w w') : Tab base v L w' := h.below hb
theorem SS_eq {v u : Value} {L : List (List Int)} {w : World} (h : TabR w v L) (g : TabR w u L) :
    Calls Try.prog 31 #[v, u] w fun e w' => e = .returned (.bool true) ∧ Below w.heap.size w w' := eqInt64SS_same h g
def SS_cnt (L : List (List Int)) : Nat := tot L
def SS_mk (L : List (List Int)) : List (List Int) := marksS 1 L
theorem SS_mark {base : Nat} {v : Value} {L : List (List Int)} {w : World} (h : Tab base v L w) (hb0 : base ≤ w.heap.size) (hL : SS_cnt L ≤ 1000000) :
    Calls Try.prog 32 #[v, .int .i64 1] w fun e w' => e = .returned (.int .i64 (1 + (SS_cnt L : Nat))) ∧ Tab base v (SS_mk L) w' ∧ Below base w w' := by
  unfold SS_cnt at *
  exact markInt64SS_c 1 h hb0 (by omega) (by omega)
theorem SS_held {v : Value} {L : List (List Int)} {w : World} (h : TabR w v (SS_mk L)) (hL : SS_cnt L ≤ 1000000) :
    Calls Try.prog 33 #[v, .int .i64 1] w fun e w' => e = .returned (.int .i64 (1 + (SS_cnt L : Nat))) ∧ Below w.heap.size w w' := by
  unfold SS_cnt at *
  exact heldInt64SS_c 1 h (by omega) (by omega)
theorem S_far {base : Nat} {v : Value} {L : List Int} {w w' : World} {row : Option Nat} (h : OwnI base v L w) (hg : w.grownBy w' row) (hrow : ∀ k, row = some k → k < base) : OwnI base v L w' := own_far h hg hrow
theorem S_reads {base : Nat} {v : Value} {L : List Int} {w : World} (h : OwnI base v L w) : Ints w v L := Ints.own h
theorem S_below {base : Nat} {v : Value} {L : List Int} {w w' : World} (h : OwnI base v L w) (hb : Below w.heap.size w w') : OwnI base v L w' := h.below hb
theorem S_eq {v u : Value} {L : List Int} {w : World} (h : Ints w v L) (g : Ints w u L) :
    Calls Try.prog 22 #[v, u] w fun e w' => e = .returned (.bool true) ∧ Below w.heap.size w w' := eqI_same h g
def S_cnt (L : List Int) : Nat := L.length
def S_mk (L : List Int) : List Int := marks 1 L.length
theorem S_mark {base : Nat} {v : Value} {L : List Int} {w : World} (h : OwnI base v L w) (hb0 : base ≤ w.heap.size) (hL : S_cnt L ≤ 1000000) :
    Calls Try.prog 24 #[v, .int .i64 1] w fun e w' => e = .returned (.int .i64 (1 + (S_cnt L : Nat))) ∧ OwnI base v (S_mk L) w' ∧ Below base w w' := by
  unfold S_cnt at *
  refine (mark_g 1 h (by omega) (by omega) (by omega)).mono ?_
  rintro e w' ⟨he, ho, hb, _⟩
  refine ⟨he, ?_, hb⟩
  unfold OwnI S_mk
  rw [marks_len]
  exact ho
theorem S_held {v : Value} {L : List Int} {w : World} (h : Ints w v (S_mk L)) (hL : S_cnt L ≤ 1000000) :
    Calls Try.prog 25 #[v, .int .i64 1] w fun e w' => e = .returned (.int .i64 (1 + (S_cnt L : Nat))) ∧ Below w.heap.size w w' := by
  unfold S_cnt at *
  refine (held_c 1 h (by omega) (by omega) (by omega)).mono ?_
  rintro e w' ⟨he, m, rfl⟩
  exact ⟨he, below_drewN (Below.refl _ _) m⟩
end Go.Proofs.Ytehfhpedpdofkaa
