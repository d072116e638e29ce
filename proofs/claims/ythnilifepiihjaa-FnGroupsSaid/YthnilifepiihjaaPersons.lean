/-
  Slices of persons: what one reads as, and how that is kept.
  Conditions: none of its own; every lemma names what it takes.
-/
import Derived.Test.YthnilifepiihjaaPerArg
namespace Go.Proofs.Ythnilifepiihjaa
open Go.RowKit

/-- A slice of persons that reads as ps. -/
def Persons (w : World) (v : Value) (ps : List Per) : Prop := Row w 5 v ps.length (ps.flatMap perC)
theorem Persons.below {w w' : World} {v : Value} {ps : List Per} (h : Persons w v ps) (hb : Below w.heap.size w w') : Persons w' v ps := Row.below h hb
theorem Persons.drewN {w : World} {v : Value} {ps : List Per} (h : Persons w v ps) (m : Nat) : Persons (w.drewN m) v ps := h
theorem Persons.alloc {w : World} {v : Value} {ps : List Per} (h : Persons w v ps) (o : Obj) : Persons (w.alloc o) v ps := h.below ((Below.refl _ _).alloc (Nat.le_refl _) o)
theorem Persons.ext {w : World} {v : Value} {ps : List Per} (h : Persons w v ps) (n : Ext w) : Persons (extW w n) v ps := h.below (ext_below w n)

theorem flat_at : ∀ (ps : List Per) (k : Nat) (p : Per), ps[k]? = some p → ∀ j, j < 5 → (ps.flatMap perC)[k * 5 + j]? = (perC p)[j]? := by
  intro ps
  induction ps with
  | nil => intro k p h; simp at h
  | cons q ps ih =>
    intro k p h j hj
    cases k with
    | zero =>
      simp at h
      subst h
      rw [List.flatMap_cons, List.getElem?_append_left (by simp [perC]; omega)]
      simp
    | succ k =>
      rw [List.flatMap_cons, List.getElem?_append_right (by simp [perC]; omega)]
      have e : (k + 1) * 5 + j - (perC q).length = k * 5 + j := by simp [perC]; omega
      rw [e]
      exact ih k p (by simpa using h) j hj
theorem flat_len (ps : List Per) : (ps.flatMap perC).length = ps.length * 5 := by
  induction ps with
  | nil => rfl
  | cons q ps ih => rw [List.flatMap_cons, List.length_append, ih]; simp [perC]; omega

/-- What the walk is given of a slice of persons. -/
structure PersAt (w : World) (a : Option Addr) (n c : Nat) (ps : List Per) : Prop where
  len : ps.length = n
  cap : n ≤ c
  most : c ≤ maxLen
  nil : a = none → c = 0
  cells : 0 < n → ∃ b o, a = some ⟨b, o, none⟩ ∧ b < w.heap.size ∧ ∀ k p, ps[k]? = some p →
    w.cell? ⟨b, o + k * 5, none⟩ = some (.int .i64 p.number) ∧ w.cell? ⟨b, o + k * 5 + 1, none⟩ = some (.string p.first) ∧ w.cell? ⟨b, o + k * 5 + 2, none⟩ = some (.string p.last) ∧ w.cell? ⟨b, o + k * 5 + 3, none⟩ = some (.int .i64 p.born) ∧ w.cell? ⟨b, o + k * 5 + 4, none⟩ = some (.int .i64 p.zone)
theorem Persons.parts {w : World} {v : Value} {ps : List Per} (h : Persons w v ps) : ∃ a n c, v = .slice a n c ∧ PersAt w a n c ps := by
  obtain ⟨h1, a, c, hv, h2, h3, h0, h4⟩ := h
  refine ⟨a, ps.length, c, hv, rfl, h2, h3, h0, fun hn => ?_⟩
  obtain ⟨b, o, ha, hb, hc⟩ := h4 hn
  refine ⟨b, o, ha, hb, fun k p hp => ?_⟩
  have key : ∀ j u, j < 5 → (perC p)[j]? = some u → w.cell? ⟨b, o + k * 5 + j, none⟩ = some u := fun j u hj hu => by
    rw [Nat.add_assoc]
    exact hc _ _ ((flat_at ps k p hp j hj).trans hu)
  exact ⟨key 0 _ (by omega) rfl, key 1 _ (by omega) rfl, key 2 _ (by omega) rfl, key 3 _ (by omega) rfl, key 4 _ (by omega) rfl⟩
theorem per_at {ps : List Per} {k : Nat} (h : k < ps.length) : ∃ p, ps[k]? = some p := ⟨ps[k], List.getElem?_eq_getElem h⟩
/-- All parts of all persons fit. -/
def PersFit (ps : List Per) : Prop := ∀ p ∈ ps, PerFit p
theorem PersFit.at_ {ps : List Per} (h : PersFit ps) {k : Nat} {p : Per} (hp : ps[k]? = some p) : PerFit p := h p (List.mem_of_getElem? hp)

theorem list_of {Q : Nat → Per → Prop} : ∀ n : Nat, (∀ i, i < n → ∃ p, Q i p) → ∃ ps : List Per, ps.length = n ∧ ∀ k p, ps[k]? = some p → Q k p := by
  intro n
  induction n with
  | zero => intro _; exact ⟨[], rfl, by intro k p h; simp at h⟩
  | succ n ih =>
    intro h
    obtain ⟨ps, hl, hq⟩ := ih (fun i hi => h i (by omega))
    obtain ⟨p, hp⟩ := h n (by omega)
    refine ⟨ps ++ [p], by simp [hl], fun k q hk => ?_⟩
    rcases Nat.lt_or_ge k ps.length with hlt | hge
    · rw [List.getElem?_append_left hlt] at hk
      exact hq k q hk
    · rw [List.getElem?_append_right hge] at hk
      have hk0 : k - ps.length = 0 := by
        rcases Nat.eq_zero_or_pos (k - ps.length) with h0 | h0
        · exact h0
        · rw [List.getElem?_eq_none (by simp; omega)] at hk; cases hk
      rw [hk0] at hk
      injection hk with hk
      subst hk
      obtain rfl : k = n := by omega
      exact hp
/-- A slice of persons, out of its cells. -/
theorem persons_row {w : World} {b o n c : Nat} {ps : List Per} (hl : ps.length = n) (hnc : n ≤ c) (hm : c ≤ maxLen) (hb : 0 < n → b < w.heap.size)
    (hc : ∀ k p, ps[k]? = some p → ∀ j, j < 5 → w.cell? ⟨b, o + (k * 5 + j), none⟩ = (perC p)[j]?) : Persons w (.slice (some ⟨b, o, none⟩) n c) ps := by
  subst hl
  refine ⟨flat_len ps, some ⟨b, o, none⟩, c, rfl, hnc, hm, (fun h => by cases h), fun h0 => ⟨b, o, rfl, hb h0, fun j u hu => ?_⟩⟩
  have hj : j < ps.length * 5 := by
    rw [← flat_len]
    exact (List.getElem?_eq_some_iff.1 hu).1
  have hk : j / 5 < ps.length := by omega
  have hp : ps[j / 5]? = some (ps[j / 5]'hk) := List.getElem?_eq_getElem hk
  have e : j / 5 * 5 + j % 5 = j := by omega
  have h1 := hc _ _ hp (j % 5) (by omega)
  have h2 := flat_at ps _ _ hp (j % 5) (by omega)
  rw [e] at h1 h2
  rw [h1, ← h2, hu]

section
open Go.ChangeShapes Go.WideShapes Go.Deep
variable {H : Type} {enc : TypeId × Value → H} {w : World}
end
end Go.Proofs.Ythnilifepiihjaa
