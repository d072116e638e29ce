/-
  A slice of slices of numbers that a call makes for itself.
  Conditions: each lemma names its own.
-/
import Derived.Test.YthnilifepiihjaaOwnI
import Derived.Maps.AppendAt
namespace Go.Proofs.Ythnilifepiihjaa
open Go.RowKit
set_option linter.unusedVariables false

/-- v holds slices that read as xss; each has memory of its own. -/
def Tab (base : Nat) (v : Value) (xss : List (List Int)) (w : World) : Prop :=
  ∃ vs : List Value, w.ownsRow base 22 1 v xss.length vs ∧ (∀ (i : Nat) (u : Value) (xs : List Int), vs[i]? = some u → xss[i]? = some xs → OwnI base u xs w) ∧
    (∀ (i j : Nat) (u u' : Value) (g : Nat), i ≠ j → vs[i]? = some u → vs[j]? = some u' → u.ownBlock = some g → u'.ownBlock ≠ some g) ∧ (∀ (i : Nat) (u : Value) (g : Nat), vs[i]? = some u → u.ownBlock = some g → v.ownBlock ≠ some g)
theorem Tab.below {base : Nat} {v : Value} {xss : List (List Int)} {w w' : World} (h : Tab base v xss w) (hb : Below w.heap.size w w') : Tab base v xss w' := by
  obtain ⟨vs, h1, h2, h3, h4⟩ := h
  exact ⟨vs, own_below h1 hb, fun i u xs hu hx => (h2 i u xs hu hx).below hb, h3, h4⟩
theorem tab_new {base : Nat} {w : World} (hb : base ≤ w.heap.size) : Tab base (.slice (some ⟨w.heap.size, 0, none⟩) 0 0) [] (w.alloc (.cells #[] 22)) :=
  ⟨[], World.ownsRow_lit w #[] 0 hb (by decide) rfl, fun i u xs h => by simp at h, fun i j u u' g _ h => by simp at h, fun i u g h => by simp at h⟩
theorem tab_nil (base : Nat) (w : World) : Tab base (.slice none 0 0) [] w :=
  ⟨[], World.ownsRow_nil _ _ _ _, fun i u xs h => by simp at h, fun i j u u' g _ h => by simp at h, fun i u g h => by simp at h⟩
theorem Tab.len {base n c : Nat} {a : Option Addr} {xss : List (List Int)} {w : World} (h : Tab base (.slice a n c) xss w) : n = xss.length ∧ n ≤ c ∧ c ≤ maxLen := by
  obtain ⟨vs, h1, _⟩ := h
  obtain ⟨a', c', hv, h2, h3, _⟩ := own_form h1
  injection hv with e1 e2 e3
  subst e2 e3
  exact ⟨rfl, h2, h3⟩
theorem Tab.form {base : Nat} {v : Value} {xss : List (List Int)} {w : World} (h : Tab base v xss w) : ∃ a c, v = .slice a xss.length c ∧ xss.length ≤ c ∧ c ≤ maxLen ∧ (0 < xss.length → ∃ g, a = some ⟨g, 0, none⟩ ∧ base ≤ g ∧ g < w.heap.size) := by
  obtain ⟨vs, h1, _⟩ := h
  exact own_form h1
/-- One more is appended: u, whose block is younger than all. -/
theorem Tab.snoc {base H : Nat} {v v' u : Value} {xss : List (List Int)} {xs : List Int} {vs : List Value} {w w' : World} {o : Obj}
    (h1 : w.ownsRow base 22 1 v xss.length vs) (h2 : ∀ (i : Nat) (u : Value) (xs : List Int), vs[i]? = some u → xss[i]? = some xs → OwnI base u xs w)
    (h3 : ∀ (i j : Nat) (u u' : Value) (g : Nat), i ≠ j → vs[i]? = some u → vs[j]? = some u' → u.ownBlock = some g → u'.ownBlock ≠ some g) (h4 : ∀ (i : Nat) (u : Value) (g : Nat), vs[i]? = some u → u.ownBlock = some g → v.ownBlock ≠ some g)
    (hH : ∀ (i : Nat) (u : Value) (g : Nat), vs[i]? = some u → u.ownBlock = some g → g < H) (hv : ∀ g, v.ownBlock = some g → g < H) (hu : OwnI H u xs w) (hB : base ≤ H) (hHw : H ≤ w.heap.size)
    (hown : w'.ownsRow base 22 1 v' (xss.length + 1) (vs ++ [u])) (hg : (w.alloc o).grownBy w' v.ownBlock) (hat : v'.ownBlock = v.ownBlock ∨ v'.ownBlock = some (w.heap.size + 1)) : Tab base v' (xss ++ [xs]) w' := by
  have hlen : vs.length = xss.length := by have := h1.1; omega
  have keep : ∀ (t : Value) (ys : List Int) (b : Nat), OwnI b t ys w → t.ownBlock = none ∨ t.ownBlock ≠ v.ownBlock → OwnI b t ys w' := fun t ys b ht hne => World.ownsRow.kept (World.ownsRow.alloc ht o) hg hne
  have huw : ∀ g, u.ownBlock = some g → H ≤ g ∧ g < w.heap.size := fun g hg => World.ownsRow.lt hu g hg
  refine ⟨vs ++ [u], by rw [List.length_append]; exact hown, fun i t ys ht hys => ?_, fun i j t t' g hij ht ht' htg => ?_, fun i t g ht htg => ?_⟩
  · rcases Nat.lt_or_ge i vs.length with hlt | hge
    · rw [List.getElem?_append_left hlt] at ht
      rw [List.getElem?_append_left (by omega)] at hys
      refine keep _ _ _ (h2 i t ys ht hys) ?_
      cases hb : t.ownBlock with
      | none => exact .inl rfl
      | some g => exact .inr (by rw [← hb]; intro e; exact h4 i t g ht hb (by rw [← e]; exact hb))
    · rw [List.getElem?_append_right hge] at ht
      rw [List.getElem?_append_right (by omega)] at hys
      have hi : i - vs.length = 0 := by have := (List.getElem?_eq_some_iff.1 ht).1; simp at this; omega
      have hi2 : i - xss.length = 0 := by omega
      rw [hi] at ht
      rw [hi2] at hys
      simp only [List.getElem?_cons_zero, Option.some.injEq] at ht hys
      subst ht hys
      refine keep _ _ _ (own_mono hu hB) ?_
      cases hb : u.ownBlock with
      | none => exact .inl rfl
      | some g => exact .inr (by intro e; have := hv g e.symm; have := (huw g hb).1; omega)
  · rcases Nat.lt_or_ge i vs.length with hlt | hge <;> rcases Nat.lt_or_ge j vs.length with hlt' | hge'
    · rw [List.getElem?_append_left hlt] at ht
      rw [List.getElem?_append_left hlt'] at ht'
      exact h3 i j t t' g hij ht ht' htg
    · rw [List.getElem?_append_left hlt] at ht
      rw [List.getElem?_append_right hge'] at ht'
      have hj : j - vs.length = 0 := by have := (List.getElem?_eq_some_iff.1 ht').1; simp at this; omega
      rw [hj] at ht'
      simp only [List.getElem?_cons_zero, Option.some.injEq] at ht'
      subst ht'
      intro e
      have := hH i t g ht htg
      have := (huw g e).1
      omega
    · rw [List.getElem?_append_right hge] at ht
      rw [List.getElem?_append_left hlt'] at ht'
      have hi : i - vs.length = 0 := by have := (List.getElem?_eq_some_iff.1 ht).1; simp at this; omega
      rw [hi] at ht
      simp only [List.getElem?_cons_zero, Option.some.injEq] at ht
      subst ht
      intro e
      have := hH j t' g ht' e
      have := (huw g htg).1
      omega
    · exfalso
      rw [List.getElem?_append_right hge] at ht
      rw [List.getElem?_append_right hge'] at ht'
      have hi := (List.getElem?_eq_some_iff.1 ht).1
      have hj := (List.getElem?_eq_some_iff.1 ht').1
      simp at hi hj
      omega
  · have hgw : g < w.heap.size ∧ v.ownBlock ≠ some g := by
      rcases Nat.lt_or_ge i vs.length with hlt | hge
      · rw [List.getElem?_append_left hlt] at ht
        exact ⟨Nat.lt_of_lt_of_le (hH i t g ht htg) hHw, h4 i t g ht htg⟩
      · rw [List.getElem?_append_right hge] at ht
        have hi : i - vs.length = 0 := by have := (List.getElem?_eq_some_iff.1 ht).1; simp at this; omega
        rw [hi] at ht
        simp only [List.getElem?_cons_zero, Option.some.injEq] at ht
        subst ht
        exact ⟨(huw g htg).2, fun e => by have := hv g e; have := (huw g htg).1; omega⟩
    rcases hat with e | e
    · rw [e]; exact hgw.2
    · rw [e]; intro q; injection q with q; omega
end Go.Proofs.Ythnilifepiihjaa
