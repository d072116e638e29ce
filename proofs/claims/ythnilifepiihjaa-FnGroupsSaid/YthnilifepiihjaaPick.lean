/-
  Draws among numbers and among texts that are typed out.
  Conditions: each lemma names its own.
-/
import Derived.Test.YthnilifepiihjaaDraw
namespace Go.Proofs.Ythnilifepiihjaa
open Go.RowKit
set_option linter.unusedVariables false

/-- A number from lo to hi is drawn. -/
def Got (B g : Nat) (lo hi : Int) (w : World) (e : Ending) (w' : World) : Prop := ∃ r : Int, e = .returned (.int .i64 r) ∧ lo ≤ r ∧ r ≤ hi ∧ Src B g w' ∧ Past g w w'
theorem pick_new {B g n : Nat} {w : World} {cs : Array Value} {T : TypeId} (xs : List Int) (lo hi : Int) (h : Src B g w) (hcs : cs.toList = xs.map (Value.int .i64)) (hn : n = xs.length) (h0 : 0 < n) (hm : n ≤ 1000) (hx : ∀ x ∈ xs, lo ≤ x ∧ x ≤ hi) :
    Calls Try.prog 69 #[.pointer (some ⟨g, 0, none⟩), .slice (some ⟨w.heap.size, 0, none⟩) n n] (w.alloc (.cells cs T)) (Got B g lo hi w) := by
  have hlt := h.lt
  have hp : Past g w (w.alloc (.cells cs T)) := (Past.refl g w).alloc _
  have hb := heap_alloc_new w (.cells cs T)
  refine (pick_c (h.alloc _) (xs := xs) (by omega) (by simp) (by omega) h0 (Nat.le_refl _) (by unfold maxLen; omega) fun k x hk => ?_).mono fun e w' ⟨r, he, hr, h1, p1⟩ => ⟨r, he, (hx r hr).1, (hx r hr).2, h1, hp.trans p1⟩
  rw [cell_of_row _ _ _ _ _ _ hb, ← Array.getElem?_toList, hcs, List.getElem?_map, hk]
  rfl
/-- A text of at most 32 bytes. -/
def shortB : Value → Bool
  | .string s => decide (s.size ≤ 32)
  | _ => false
theorem lit_at {w w2 : World} {cs : Array Value} {T : TypeId} {g r : Nat} (hp : Past g (w.alloc (.cells cs T)) w2) (hg : g < w.heap.size) (hr : r < cs.size) (hall : cs.all shortB = true) :
    ∃ s, w2.cell? ⟨w.heap.size, r, none⟩ = some (.string s) ∧ s.size ≤ 32 := by
  have hb := heap_alloc_new w (.cells cs T)
  have h1 : (w.alloc (.cells cs T)).cell? ⟨w.heap.size, r, none⟩ = some cs[r] := by
    rw [cell_of_row _ _ _ _ _ _ hb, Array.getElem?_eq_getElem hr]
  have h2 := hp.cell h1 (by simp; omega)
  rw [Array.all_eq_true] at hall
  have h3 := hall r hr
  cases hv : cs[r] <;> rw [hv] at h3 h2 <;> simp only [shortB, decide_eq_true_eq, Bool.false_eq_true] at h3
  exact ⟨_, h2, h3⟩
/-- A text of at most 32 bytes is drawn. -/
def GotText (B g : Nat) (w : World) (e : Ending) (w' : World) : Prop := ∃ s : ByteArray, e = .returned (.string s) ∧ s.size ≤ 32 ∧ Src B g w' ∧ Past g w w'
end Go.Proofs.Ythnilifepiihjaa
