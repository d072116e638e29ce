/-
  Slices of slices of numbers: how they are compared, marked and looked through again.
  Conditions: each lemma names its own.
-/
import Derived.Test.YthnilifepiihjaaTab
import Derived.Test.YthnilifepiihjaaMark
import Derived.Test.YthnilifepiihjaaMarkPer
import Derived.Test.YthnilifepiihjaaIntsEq
namespace Go.Proofs.Ythnilifepiihjaa
open Go.RowKit
set_option linter.unusedVariables false

/-- v reads as slices that read as xss. -/
def TabR (w : World) (v : Value) (xss : List (List Int)) : Prop :=
  ∃ vs : List Value, Row w 1 v xss.length vs ∧ ∀ (i : Nat) (u : Value) (xs : List Int), vs[i]? = some u → xss[i]? = some xs → Ints w u xs
theorem TabR.below {w w' : World} {v : Value} {xss : List (List Int)} (h : TabR w v xss) (hb : Below w.heap.size w w') : TabR w' v xss := by
  obtain ⟨vs, h1, h2⟩ := h
  exact ⟨vs, h1.below hb, fun i u xs hu hx => (h2 i u xs hu hx).below hb⟩
theorem Tab.reads {base : Nat} {w : World} {v : Value} {xss : List (List Int)} (h : Tab base v xss w) : TabR w v xss := by
  obtain ⟨vs, h1, h2, _, _⟩ := h
  exact ⟨vs, Row.own h1, fun i u xs hu hx => Ints.own (h2 i u xs hu hx)⟩
theorem TabR.form {w : World} {v : Value} {xss : List (List Int)} (h : TabR w v xss) : ∃ a c, v = .slice a xss.length c ∧ xss.length ≤ c ∧ c ≤ maxLen := by
  obtain ⟨vs, ⟨_, a, c, hv, h2, h3, _⟩, _⟩ := h
  exact ⟨a, c, hv, h2, h3⟩
theorem TabR.at_ {w : World} {a : Option Addr} {n c k : Nat} {xss : List (List Int)} (h : TabR w (.slice a n c) xss) (hk : k < n) :
    ∃ b o u xs, a = some ⟨b, o, none⟩ ∧ b < w.heap.size ∧ w.cell? ⟨b, o + k, none⟩ = some u ∧ xss[k]? = some xs ∧ Ints w u xs := by
  obtain ⟨vs, ⟨hl, a', c', hv, h2, h3, h0, h4⟩, h5⟩ := h
  injection hv with e1 e2 e3
  subst e1 e2 e3
  obtain ⟨b, o, ha, hb, hc⟩ := h4 (by omega)
  have hk' : k < vs.length := by omega
  exact ⟨b, o, vs[k], xss[k], ha, hb, hc k _ (List.getElem?_eq_getElem hk'), List.getElem?_eq_getElem hk, h5 k _ _ (List.getElem?_eq_getElem hk') (List.getElem?_eq_getElem hk)⟩
theorem eqI_same {v u : Value} {xs : List Int} {w : World} (h : Ints w v xs) (g : Ints w u xs) :
    Calls Try.prog 64 #[v, u] w fun e w' => e = .returned (.bool true) ∧ Below w.heap.size w w' :=
  (eqInt64S_c h g).mono fun _ _ ⟨he, m, hw⟩ => ⟨by rw [he]; simp, by rw [hw]; exact below_drewN (Below.refl _ _) m⟩

def tot (xss : List (List Int)) : Nat := (xss.map List.length).sum
def marksS : Int → List (List Int) → List (List Int)
  | _, [] => []
  | k, xs :: r => marks k xs.length :: marksS (k + xs.length) r
theorem marksS_len : ∀ (k : Int) (xss : List (List Int)), (marksS k xss).length = xss.length
  | _, [] => rfl
  | k, xs :: r => by simp [marksS, marksS_len _ r]
theorem marksS_at : ∀ (k : Int) (xss : List (List Int)) (i : Nat) (xs : List Int), xss[i]? = some xs → (marksS k xss)[i]? = some (marks (k + (tot (xss.take i) : Nat)) xs.length)
  | _, [], i, xs, h => by simp at h
  | k, x :: r, 0, xs, h => by
    simp at h
    subst h
    simp [marksS, tot]
  | k, x :: r, i + 1, xs, h => by
    simp only [List.getElem?_cons_succ] at h
    simp only [marksS, List.getElem?_cons_succ, List.take_succ_cons]
    rw [marksS_at _ r i xs h]
    congr 2
    simp only [tot, List.map_cons, List.sum_cons]
    omega
theorem tot_take {xss : List (List Int)} {i : Nat} {xs : List Int} (h : xss[i]? = some xs) : tot (xss.take (i + 1)) = tot (xss.take i) + xs.length := by
  rw [List.take_add_one, h]
  simp [tot]
theorem tot_le (xss : List (List Int)) (i : Nat) : tot (xss.take i) ≤ tot xss := by
  have : tot xss = tot (xss.take i) + tot (xss.drop i) := by
    conv => lhs; rw [← List.take_append_drop i xss]
    simp only [tot, List.map_append, List.sum_append]
  omega
theorem tot_marks : ∀ (k : Int) (xss : List (List Int)), tot (marksS k xss) = tot xss
  | _, [] => rfl
  | k, xs :: r => by
    have := tot_marks (k + xs.length) r
    simp only [tot, marksS, List.map_cons, List.sum_cons, marks_len] at *
    omega

end Go.Proofs.Ythnilifepiihjaa
