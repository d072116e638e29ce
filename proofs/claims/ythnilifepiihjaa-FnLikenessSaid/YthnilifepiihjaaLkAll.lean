/-
  LikenessOf and AreAlike of both packages, for all persons at once; what the law on likeness needs.
  Conditions: each lemma names its own.
-/
import Derived.Test.YthnilifepiihjaaLikeOf
import Derived.Test.YthnilifepiihjaaMost
namespace Go.Proofs.Ythnilifepiihjaa
open Go.RowKit
set_option linter.unusedVariables false

def lkI (p q : Per) : Int := if perB p = true ∧ perB q = true then lik p q else 0
def lkE (p q : Per) : Int := if perB p = true ∧ perB q = true then 0 else 1
def aaE (p q : Per) (l : Int) : Int := if perB p = true ∧ perB q = true then (if 0 ≤ l ∧ l ≤ 100 then 0 else 2) else 1
def aaB (p q : Per) (l : Int) : Bool := if perB p = true ∧ perB q = true then (if 0 ≤ l ∧ l ≤ 100 then decide (l ≤ lik p q) else false) else false
theorem impl_Lk (p q : Per) (hp : PerFit p) (hq : PerFit q) (w : World) :
    Calls Try.prog 16 #[.agg #[.int .i64 p.number, .string p.first, .string p.last, .int .i64 p.born, .int .i64 p.zone], .agg #[.int .i64 q.number, .string q.first, .string q.last, .int .i64 q.born, .int .i64 q.zone]] w fun e w' => e = .returned (.tuple #[.int .i64 (lkI p q), .int .i64 (lkE p q)]) ∧ Below w.heap.size w w' := by
  unfold lkI lkE
  cases kp : perB p with
  | false => simp only [Bool.false_eq_true, false_and, if_false]; exact impl_LikenessOf_bad1 p hp q hq kp w
  | true =>
    cases kq : perB q with
    | false => simp only [Bool.false_eq_true, and_false, if_false]; exact impl_LikenessOf_bad2 p hp q hq kp kq w
    | true => simp only [and_self, if_true]; exact impl_LikenessOf_ok p hp q hq kp kq w
theorem impl_Aa (p q : Per) (hp : PerFit p) (hq : PerFit q) (l : Int) (w : World) :
    Calls Try.prog 19 #[.agg #[.int .i64 p.number, .string p.first, .string p.last, .int .i64 p.born, .int .i64 p.zone], .agg #[.int .i64 q.number, .string q.first, .string q.last, .int .i64 q.born, .int .i64 q.zone], .int .i64 l] w fun e w' => e = .returned (.tuple #[.bool (aaB p q l), .int .i64 (aaE p q l)]) ∧ Below w.heap.size w w' := by
  unfold aaB aaE
  cases kp : perB p with
  | false => simp only [Bool.false_eq_true, false_and, if_false]; exact impl_AreAlike_bad1 p hp q hq l kp w
  | true =>
    cases kq : perB q with
    | false => simp only [Bool.false_eq_true, and_false, if_false]; exact impl_AreAlike_bad2 p hp q hq l kp kq w
    | true =>
      simp only [and_self, if_true]
      by_cases hl : 0 ≤ l ∧ l ≤ 100
      · rw [if_pos hl, if_pos hl]; exact impl_AreAlike_ok p hp q hq l kp kq hl w
      · rw [if_neg hl, if_neg hl]; exact impl_AreAlike_range p hp q hq l kp kq (by omega) w
theorem impl_MostL {v : Value} {ps : List Per} {w : World} (h : Persons w v ps) (hp : PersFit ps) (p : Per) (hf : PerFit p) :
    Calls Try.prog 22 #[v, .agg #[.int .i64 p.number, .string p.first, .string p.last, .int .i64 p.born, .int .i64 p.zone]] w fun e w' => e = .returned (.tuple #[.int .i64 (mstI ps p), .int .i64 (mstE ps p)]) ∧ Below w.heap.size w w' := impl_Most h hp p hf
theorem impl_IsPerL (p : Per) (hp : PerFit p) (w : World) : Calls Try.prog 27 #[.agg #[.int .i64 p.number, .string p.first, .string p.last, .int .i64 p.born, .int .i64 p.zone]] w fun e w' => e = .returned (.bool (perB p)) ∧ Below w.heap.size w w' := impl_IsPerson p hp w
theorem spec_Lk (p q : Per) (hp : PerFit p) (hq : PerFit q) (w : World) :
    Calls Try.prog 17 #[.agg #[.int .i64 p.number, .string p.first, .string p.last, .int .i64 p.born, .int .i64 p.zone], .agg #[.int .i64 q.number, .string q.first, .string q.last, .int .i64 q.born, .int .i64 q.zone]] w fun e w' => e = .returned (.tuple #[.int .i64 (lkI p q), .int .i64 (lkE p q)]) ∧ Below w.heap.size w w' := by
  unfold lkI lkE
  cases kp : perB p with
  | false => simp only [Bool.false_eq_true, false_and, if_false]; exact spec_LikenessOf_bad1 p hp q hq kp w
  | true =>
    cases kq : perB q with
    | false => simp only [Bool.false_eq_true, and_false, if_false]; exact spec_LikenessOf_bad2 p hp q hq kp kq w
    | true => simp only [and_self, if_true]; exact spec_LikenessOf_ok p hp q hq kp kq w
theorem spec_Aa (p q : Per) (hp : PerFit p) (hq : PerFit q) (l : Int) (w : World) :
    Calls Try.prog 20 #[.agg #[.int .i64 p.number, .string p.first, .string p.last, .int .i64 p.born, .int .i64 p.zone], .agg #[.int .i64 q.number, .string q.first, .string q.last, .int .i64 q.born, .int .i64 q.zone], .int .i64 l] w fun e w' => e = .returned (.tuple #[.bool (aaB p q l), .int .i64 (aaE p q l)]) ∧ Below w.heap.size w w' := by
  unfold aaB aaE
  cases kp : perB p with
  | false => simp only [Bool.false_eq_true, false_and, if_false]; exact spec_AreAlike_bad1 p hp q hq l kp w
  | true =>
    cases kq : perB q with
    | false => simp only [Bool.false_eq_true, and_false, if_false]; exact spec_AreAlike_bad2 p hp q hq l kp kq w
    | true =>
      simp only [and_self, if_true]
      by_cases hl : 0 ≤ l ∧ l ≤ 100
      · rw [if_pos hl, if_pos hl]; exact spec_AreAlike_ok p hp q hq l kp kq hl w
      · rw [if_neg hl, if_neg hl]; exact spec_AreAlike_range p hp q hq l kp kq (by omega) w
theorem spec_MostL {v : Value} {ps : List Per} {w : World} (h : Persons w v ps) (hp : PersFit ps) (p : Per) (hf : PerFit p) :
    Calls Try.prog 23 #[v, .agg #[.int .i64 p.number, .string p.first, .string p.last, .int .i64 p.born, .int .i64 p.zone]] w fun e w' => e = .returned (.tuple #[.int .i64 (mstI ps p), .int .i64 (mstE ps p)]) ∧ Below w.heap.size w w' := spec_Most h hp p hf
theorem spec_IsPerL (p : Per) (hp : PerFit p) (w : World) : Calls Try.prog 28 #[.agg #[.int .i64 p.number, .string p.first, .string p.last, .int .i64 p.born, .int .i64 p.zone]] w fun e w' => e = .returned (.bool (perB p)) ∧ Below w.heap.size w w' := spec_IsPerson p hp w
theorem lk_back {p q : Per} (h : lkE p q = 0) : lkE q p = 0 ∧ lkI q p = lkI p q ∧ lkE p p = 0 ∧ lkI p p = 100 := by
  unfold lkE at h
  by_cases k : perB p = true ∧ perB q = true
  · unfold lkE lkI
    rw [if_pos k, if_pos ⟨k.2, k.1⟩, if_pos ⟨k.2, k.1⟩, if_pos ⟨k.1, k.1⟩, if_pos ⟨k.1, k.1⟩, lik_self]
    exact ⟨rfl, lik_comm q p, rfl, rfl⟩
  · rw [if_neg k] at h
    cases h
theorem lk_most {ps : List Per} {p : Per} (h : mstE ps p = 0) : ∃ k : Nat, k < ps.length ∧ mstI ps p = k ∧ ∀ (i : Nat) (q m : Per), ps[i]? = some q → ps[k]? = some m → lkE q p = 0 ∧ lkE m p = 0 ∧ lkI q p ≤ lkI m p := by
  unfold mstE at h
  by_cases k : persB ps = true ∧ perB p = true
  · rw [if_pos k] at h
    by_cases hn : ps.length = 0
    · rw [if_pos hn] at h
      cases h
    · have hlt : bst ps p ps.length < ps.length := by
        have := bst_le ps p (ps.length - 1)
        rw [show ps.length - 1 + 1 = ps.length by omega] at this
        omega
      refine ⟨bst ps p ps.length, hlt, by unfold mstI; rw [if_pos k], fun i q m hq hm => ?_⟩
      have bq := persB_at k.1 hq
      have bm := persB_at k.1 hm
      unfold lkE lkI
      rw [if_pos ⟨bq, k.2⟩, if_pos ⟨bm, k.2⟩, if_pos ⟨bq, k.2⟩, if_pos ⟨bm, k.2⟩]
      refine ⟨rfl, rfl, ?_⟩
      have := bst_most ps p ps.length i (List.getElem?_eq_some_iff.1 hq).1
      rwa [getD_per hq, getD_per hm] at this
  · rw [if_neg k] at h
    cases h
theorem mst_k {ps : List Per} {p : Per} : 0 ≤ mstI ps p ∧ mstI ps p ≤ ps.length := by
  unfold mstI
  split
  · have : bst ps p ps.length ≤ ps.length := by
      cases hl : ps.length with
      | zero => exact Nat.le_refl _
      | succ n => have := bst_le ps p n; omega
    omega
  · omega
theorem two_pers (w : World) (p q : Per) (t : TypeId) : PerAt ((w.alloc (.cells #[.int .i64 p.number, .string p.first, .string p.last, .int .i64 p.born, .int .i64 p.zone] t)).alloc (.cells #[.int .i64 q.number, .string q.first, .string q.last, .int .i64 q.born, .int .i64 q.zone] t)) w.heap.size p ∧
    PerAt ((w.alloc (.cells #[.int .i64 p.number, .string p.first, .string p.last, .int .i64 p.born, .int .i64 p.zone] t)).alloc (.cells #[.int .i64 q.number, .string q.first, .string q.last, .int .i64 q.born, .int .i64 q.zone] t)) (w.heap.size + 1) q ∧
    Below w.heap.size w ((w.alloc (.cells #[.int .i64 p.number, .string p.first, .string p.last, .int .i64 p.born, .int .i64 p.zone] t)).alloc (.cells #[.int .i64 q.number, .string q.first, .string q.last, .int .i64 q.born, .int .i64 q.zone] t)) := by
  have h1 := perAt_new w p t
  have h2 := perAt_new (w.alloc (.cells #[.int .i64 p.number, .string p.first, .string p.last, .int .i64 p.born, .int .i64 p.zone] t)) q t
  rw [show (w.alloc (.cells #[.int .i64 p.number, .string p.first, .string p.last, .int .i64 p.born, .int .i64 p.zone] t)).heap.size = w.heap.size + 1 by simp] at h2
  have b1 : Below w.heap.size w (w.alloc (.cells #[.int .i64 p.number, .string p.first, .string p.last, .int .i64 p.born, .int .i64 p.zone] t)) := (Below.refl _ _).alloc (Nat.le_refl _) _
  exact ⟨h1.below ((Below.refl _ _).alloc (Nat.le_refl _) _), h2, b1.alloc b1.size _⟩
end Go.Proofs.Ythnilifepiihjaa
