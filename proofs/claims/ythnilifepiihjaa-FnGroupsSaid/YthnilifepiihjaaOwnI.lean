/-
  Own rows of numbers.
  Conditions: each lemma names its own.
-/
import Derived.Test.YthnilifepiihjaaOwn
import Derived.Test.YthnilifepiihjaaDist
namespace Go.Proofs.Ythnilifepiihjaa
open Go.RowKit
set_option linter.unusedVariables false

/-- An own row of numbers. -/
def OwnI (base : Nat) (v : Value) (s : List Int) (w : World) : Prop := w.ownsRow base 2 1 v s.length (s.map (Value.int .i64))
theorem OwnI.below {base : Nat} {v : Value} {s : List Int} {w w' : World} (h : OwnI base v s w) (hb : Below w.heap.size w w') : OwnI base v s w' := own_below h hb
theorem OwnI.drewN {base : Nat} {v : Value} {s : List Int} {w : World} (h : OwnI base v s w) (m : Nat) : OwnI base v s (w.drewN m) := h
theorem OwnI.at_ {base g n c : Nat} {s : List Int} {w : World} (h : OwnI base (.slice (some ⟨g, 0, none⟩) n c) s w) {k : Nat} (hk : k < s.length) : w.cell? ⟨g, k, none⟩ = some (.int .i64 (nth s k)) ∧ w.frozen? ⟨g, k, none⟩ = false := by
  have hn : n = s.length := by
    rcases h.2 with ⟨hv, _⟩ | ⟨g', cap, cur, hv, _⟩
    · cases hv
    · injection hv
  subst hn
  refine ⟨?_, World.ownsRow.frozenAt h k⟩
  rw [World.ownsRow.cellAt h k (by omega), List.getElem?_map, some_nth hk]
  rfl
theorem OwnI.set {base g n c : Nat} {s : List Int} {w : World} (h : OwnI base (.slice (some ⟨g, 0, none⟩) n c) s w) (k : Nat) (x : Int) : OwnI base (.slice (some ⟨g, 0, none⟩) n c) (s.set k x) (w.setCell ⟨g, k, none⟩ (.int .i64 x)) := by
  have hn : n = s.length := by
    rcases h.2 with ⟨hv, _⟩ | ⟨g', cap, cur, hv, _⟩
    · cases hv
    · injection hv
  subst hn
  have := (World.ownsRow.stored h k (.int .i64 x)).1
  rw [← List.map_set] at this
  unfold OwnI
  rw [List.length_set]
  exact this

end Go.Proofs.Ythnilifepiihjaa
