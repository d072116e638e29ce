/-
  The plain mathematics of likeness: one step between two words, points, the likeness of two persons. No program in sight.
  Conditions: each lemma names its own.
-/
import Derived.Test.YthnilifepiihjaaPer
namespace Go.Proofs.Ythnilifepiihjaa

/-- How many bytes two texts have in common at their beginning. -/
def cpre : List UInt8 → List UInt8 → Nat
  | x :: a, y :: b => if x = y then cpre a b + 1 else 0
  | [], _ => 0
  | _ :: _, [] => 0
theorem cpre_is : ∀ (i : Nat) (a b : List UInt8), i ≤ a.length → a.length ≤ b.length → (∀ j, j < i → a[j]? = b[j]?) → (i = a.length ∨ a[i]? ≠ b[i]?) → cpre a b = i := by
  intro i
  induction i with
  | zero =>
    intro a b _ hl _ h
    cases a with
    | nil => rfl
    | cons x a =>
      cases b with
      | nil => rfl
      | cons y b =>
        rcases h with h | h
        · simp at h
        · simp only [cpre]
          rw [if_neg]
          intro e
          subst e
          simp at h
  | succ i ih =>
    intro a b hi hl hj h
    cases a with
    | nil => simp at hi
    | cons x a =>
      cases b with
      | nil => simp at hl
      | cons y b =>
        have h0 := hj 0 (by omega)
        simp at h0
        subst h0
        simp only [cpre, if_true]
        congr 1
        refine ih a b (by simpa using hi) (by simpa using hl) (fun j hlt => ?_) ?_
        · have := hj (j + 1) (by omega)
          simpa using this
        · rcases h with h | h
          · left; simpa using h
          · right; simpa using h
theorem cpre_comm : ∀ (a b : List UInt8), cpre a b = cpre b a := by
  intro a
  induction a with
  | nil => intro b; cases b <;> rfl
  | cons x a ih =>
    intro b
    cases b with
    | nil => rfl
    | cons y b =>
      simp only [cpre]
      by_cases h : x = y
      · rw [if_pos h, if_pos h.symm, ih]
      · rw [if_neg h, if_neg (fun e => h e.symm)]
theorem cpre_self : ∀ a : List UInt8, cpre a a = a.length := by
  intro a
  induction a with
  | nil => rfl
  | cons x a ih => simp only [cpre, if_true]; rw [ih]; rfl
/-- One step from a to b, a being no longer than b. -/
def stepO (a b : List UInt8) : Bool :=
  if b.length = a.length then decide (cpre a b < a.length) && (a.drop (cpre a b + 1) == b.drop (cpre a b + 1))
  else if b.length = a.length + 1 then a.drop (cpre a b) == b.drop (cpre a b + 1) else false
/-- One step turns a text into another one. -/
def stepB (a b : List UInt8) : Bool := if b.length < a.length then stepO b a else stepO a b
theorem stepB_comm (a b : List UInt8) : stepB a b = stepB b a := by
  unfold stepB
  by_cases h1 : b.length < a.length
  · rw [if_pos h1, if_neg (by omega)]
  · by_cases h2 : a.length < b.length
    · rw [if_neg h1, if_pos h2]
    · rw [if_neg h1, if_neg h2]
      unfold stepO
      rw [if_pos (by omega), if_pos (by omega), cpre_comm b a, show a.length = b.length by omega]
      congr 1
      rw [Bool.eq_iff_iff]
      simp only [beq_iff_eq]
      exact ⟨fun h => h.symm, fun h => h.symm⟩
/-- Points for equal texts, or for a step. -/
def pts (a b : ByteArray) (e s : Int) : Int := if a = b then e else if stepB a.data.toList b.data.toList = true then s else 0
theorem pts_comm (a b : ByteArray) (e s : Int) : pts a b e s = pts b a e s := by
  unfold pts
  by_cases h : a = b
  · rw [if_pos h, if_pos h.symm]
  · have h' : ¬ b = a := fun q => h q.symm
    simp only [h, h', if_false]
    rw [stepB_comm]
theorem pts_self (a : ByteArray) (e s : Int) : pts a a e s = e := by unfold pts; rw [if_pos rfl]
def bornP (x y : Int) : Int := if x = y then 20 else if x - y = 1 ∨ y - x = 1 then 10 else 0
def zoneP (x y : Int) : Int := if x = y then 10 else 0
/-- The likeness of two persons. -/
def lik (p q : Per) : Int := pts p.last q.last 40 25 + pts p.first q.first 30 20 + bornP p.born q.born + zoneP p.zone q.zone
theorem pts_bd (a b : ByteArray) {e s : Int} (h : 0 ≤ s) (h' : s ≤ e) : 0 ≤ pts a b e s ∧ pts a b e s ≤ e := by
  unfold pts
  split
  · omega
  · split <;> omega
theorem lik_bd (p q : Per) : 0 ≤ lik p q ∧ lik p q ≤ 100 := by
  have h1 := pts_bd p.last q.last (e := 40) (s := 25) (by omega) (by omega)
  have h2 := pts_bd p.first q.first (e := 30) (s := 20) (by omega) (by omega)
  have h3 : 0 ≤ bornP p.born q.born ∧ bornP p.born q.born ≤ 20 := by unfold bornP; split; · omega
                                                                     · split <;> omega
  have h4 : 0 ≤ zoneP p.zone q.zone ∧ zoneP p.zone q.zone ≤ 10 := by unfold zoneP; split <;> omega
  unfold lik
  omega
theorem lik_comm (p q : Per) : lik p q = lik q p := by
  unfold lik
  have h1 : bornP p.born q.born = bornP q.born p.born := by
    unfold bornP
    by_cases h : p.born = q.born
    · rw [if_pos h, if_pos h.symm]
    · have h' : ¬ q.born = p.born := fun e => h e.symm
      simp only [h, h', if_false]
      by_cases g : p.born - q.born = 1 ∨ q.born - p.born = 1
      · have g' : q.born - p.born = 1 ∨ p.born - q.born = 1 := by omega
        rw [if_pos g, if_pos g']
      · have g' : ¬ (q.born - p.born = 1 ∨ p.born - q.born = 1) := by omega
        rw [if_neg g, if_neg g']
  have h2 : zoneP p.zone q.zone = zoneP q.zone p.zone := by
    unfold zoneP
    by_cases h : p.zone = q.zone
    · rw [if_pos h, if_pos h.symm]
    · rw [if_neg h, if_neg (fun e => h e.symm)]
  rw [pts_comm p.last, pts_comm p.first, h1, h2]
theorem lik_self (p : Per) : lik p p = 100 := by
  unfold lik bornP zoneP
  rw [pts_self, pts_self]
  simp
end Go.Proofs.Ythnilifepiihjaa
