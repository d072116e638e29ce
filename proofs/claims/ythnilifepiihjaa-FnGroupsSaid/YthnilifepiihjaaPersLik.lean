/-
  The likeness of two persons of a list: what a walk is given of it.
  Conditions: each lemma names its own.
-/
import Derived.Test.YthnilifepiihjaaPersEq
import Derived.Test.YthnilifepiihjaaLik
namespace Go.Proofs.Ythnilifepiihjaa
open Go.RowKit
set_option linter.unusedVariables false

theorem ret2_i {a b c d : Int} (h : a = b) (g : c = d) : Ending.returned (.tuple #[.int .i64 a, .int .i64 c]) = .returned (.tuple #[.int .i64 b, .int .i64 d]) := by rw [h, g]
theorem perB_born {p : Per} (h : perB p = true) : 1900 ≤ p.born ∧ p.born ≤ 2100 := ((perB_iff p).1 h).2.2.2.1
theorem persB_at {ps : List Per} (h : persB ps = true) {k : Nat} {q : Per} (hx : ps[k]? = some q) : perB q = true := by
  unfold persB at h
  rw [Bool.and_eq_true] at h
  have := allB_all h.1 k (List.getElem?_eq_some_iff.1 hx).1
  unfold persAtB at this
  rw [Bool.and_eq_true, getD_per hx] at this
  exact this.1
theorem persB_len {ps : List Per} (h : persB ps = true) : ps.length ≤ 12 := by
  unfold persB at h
  rw [Bool.and_eq_true, decide_eq_true_eq] at h
  exact h.2
theorem persB_born {ps : List Per} (h : persB ps = true) {k : Nat} {q : Per} (hx : ps[k]? = some q) : 1900 ≤ q.born ∧ q.born ≤ 2100 := perB_born (persB_at h hx)
theorem impl_lik_l (p q : Per) (hp : PerFit p) (hq : PerFit q) (b1 : 1900 ≤ p.born ∧ p.born ≤ 2100) (b2 : 1900 ≤ q.born ∧ q.born ≤ 2100) (w : World) :
    Calls Try.prog 67 #[.agg #[.int .i64 p.number, .string p.first, .string p.last, .int .i64 p.born, .int .i64 p.zone], .agg #[.int .i64 q.number, .string q.first, .string q.last, .int .i64 q.born, .int .i64 q.zone]] w fun r w' => r = .returned (.int .i64 (lik p q)) ∧ Below w.heap.size w w' := impl_likeness p q hp hq b1 b2 w
theorem spec_lik_l (p q : Per) (hp : PerFit p) (hq : PerFit q) (b1 : 1900 ≤ p.born ∧ p.born ≤ 2100) (b2 : 1900 ≤ q.born ∧ q.born ≤ 2100) (w : World) :
    Calls Try.prog 68 #[.agg #[.int .i64 p.number, .string p.first, .string p.last, .int .i64 p.born, .int .i64 p.zone], .agg #[.int .i64 q.number, .string q.first, .string q.last, .int .i64 q.born, .int .i64 q.zone]] w fun r w' => r = .returned (.int .i64 (lik p q)) ∧ Below w.heap.size w w' := spec_likeness p q hp hq b1 b2 w

theorem Persons.form {w : World} {a : Option Addr} {n c : Nat} {ps : List Per} (h : Persons w (.slice a n c) ps) : ps.length = n ∧ n ≤ c ∧ c ≤ maxLen ∧ (0 < n → ∃ b o, a = some ⟨b, o, none⟩) := by
  obtain ⟨a', n', c', hv, H⟩ := h.parts
  injection hv with h1 h2 h3
  subst h1 h2 h3
  exact ⟨H.len, H.cap, H.most, fun hn => by obtain ⟨b, o, ha, _⟩ := H.cells hn; exact ⟨b, o, ha⟩⟩
theorem Persons.at_ {w : World} {b o n c : Nat} {ps : List Per} (h : Persons w (.slice (some ⟨b, o, none⟩) n c) ps) {k : Nat} {p : Per} (hx : ps[k]? = some p) :
    b < w.heap.size ∧ w.cell? ⟨b, o + k * 5, none⟩ = some (.int .i64 p.number) ∧ w.cell? ⟨b, o + k * 5 + 1, none⟩ = some (.string p.first) ∧ w.cell? ⟨b, o + k * 5 + 2, none⟩ = some (.string p.last) ∧ w.cell? ⟨b, o + k * 5 + 3, none⟩ = some (.int .i64 p.born) ∧ w.cell? ⟨b, o + k * 5 + 4, none⟩ = some (.int .i64 p.zone) := by
  obtain ⟨a', n', c', hv, H⟩ := h.parts
  injection hv with h1 h2 h3
  subst h2 h3
  have hk : k < ps.length := (List.getElem?_eq_some_iff.1 hx).1
  obtain ⟨b', o', ha, hb, hc⟩ := H.cells (by rw [← H.len]; omega)
  rw [← h1] at ha
  injection ha with ha
  injection ha with e1 e2
  subst e1 e2
  exact ⟨hb, hc k p hx⟩
end Go.Proofs.Ythnilifepiihjaa
